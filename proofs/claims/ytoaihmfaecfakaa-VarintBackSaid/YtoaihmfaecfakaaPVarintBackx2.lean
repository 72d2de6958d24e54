-- PRINTED BY print.sh 35421559b90ae4d0a3588c463048766b98c2df88dd9212a6774a882060cdf62d: not written by this session
import Derived.Test.YtoaihmfaecfakaaPVarintBackx0
import Derived.Test.YtoaihmfaecfakaaPVarintBackx1
namespace Go.Proofs.Ytoaihmfaecfakaa.PVarintBack
open Go.RowKit Go.Proofs.YtoaihmfaecfakaaW.PrintWords Go.Proofs.YtoaihmfaecfakaaW.PrintLast Go.Proofs.YtoaihmfaecfakaaW.PrintMore
attribute [local go_sem] max2_int min2_int max_two min_two max_three min_three max_four min_four   -- for this text's walks alone
set_option linter.unusedVariables false
set_option linter.unusedSimpArgs false

/-! ### lodestarlaw04_VarintBack: function 9 -/
mutual
def lodestarlaw04_VarintBack.j0 : Nat → List Int → Bool → Option (Bool)
  | 0, _, _ => none
  | k + 1, x5, x72 => if x72 = true then (some false) else (lodestarlaw04_VarintBack.l0 k x5 0)
def lodestarlaw04_VarintBack.l0 : Nat → List Int → Int → Option (Bool)
  | 0, _, _ => none
  | k + 1, x5, x13 => if x13 < (x5.length : Int) then (if 0 ≤ x13 then (if x13 ≤ (x5.length : Int) then ((varint_Get.f k (x5.take (x13 : Int).toNat)).bind fun bt158 => (if bt158.2.2 = 40 then (lodestarlaw04_VarintBack.l0 k x5 (wrap64 (x13 + 1))) else (some false))) else (none)) else (none)) else (some true)
end
def lodestarlaw04_VarintBack.f (k : Nat) (a0 : Int) (l1 : List Int) : Option (Bool) := (lodestarlaw04_alive.f k).bind fun t126 => (if t126 = true then ((varint_Put.f k a0).bind fun t127 => ((some (([] : List Int) : List Int)).bind fun y130 => (if y130.length + t127.length < 140737488355328 then ((some (y130 ++ t127 : List Int)).bind fun y133 => (if y133.length + l1.length < 140737488355328 then ((varint_Get.f k (y133 ++ l1)).bind fun bt139 => ((varint_PutInt.f k (wrap64 (a0))).bind fun t142 => (if t142.length + l1.length < 140737488355328 then ((varint_GetInt.f k (t142 ++ l1)).bind fun bt148 => (if bt139.1 = a0 then (if bt139.2.1 = (t127.length : Int) then (if bt139.2.2 = 0 then (if bt148.1 = (wrap64 (a0)) then (if bt148.2.2 = 0 then ((varint_PutInt.f k (wrap64 (a0))).bind fun t151 => (lodestarlaw04_VarintBack.j0 k t127 (bt148.2.1 != (t151.length : Int)))) else (lodestarlaw04_VarintBack.j0 k t127 true)) else (lodestarlaw04_VarintBack.j0 k t127 true)) else (lodestarlaw04_VarintBack.j0 k t127 true)) else (lodestarlaw04_VarintBack.j0 k t127 true)) else (lodestarlaw04_VarintBack.j0 k t127 true))) else (none)))) else (none))) else (none)))) else (some false))
theorem lodestarlaw04_VarintBack.mono_l : ∀ k, (∀ y0 y1, LeO (lodestarlaw04_VarintBack.j0 k y0 y1) (lodestarlaw04_VarintBack.j0 (k + 1) y0 y1)) ∧ (∀ y0 y1, LeO (lodestarlaw04_VarintBack.l0 k y0 y1) (lodestarlaw04_VarintBack.l0 (k + 1) y0 y1))
  | 0 => ⟨fun _ _ r h => by simp [lodestarlaw04_VarintBack.j0] at h, fun _ _ r h => by simp [lodestarlaw04_VarintBack.l0] at h⟩
  | k + 1 => by
    obtain ⟨ih0, ih1⟩ := lodestarlaw04_VarintBack.mono_l k
    refine ⟨?_, ?_⟩
    · intro y0 y1
      unfold lodestarlaw04_VarintBack.j0
      repeat' first
      | (with_reducible exact ih0 _ _)
      | (with_reducible exact ih1 _ _)
      | (with_reducible exact lodestarlaw04_alive.mono _)
      | (with_reducible exact varint_Get.mono _ _)
      | (with_reducible exact varint_GetInt.mono _ _)
      | (with_reducible exact varint_Put.mono _ _)
      | (with_reducible exact varint_PutInt.mono _ _)
      | (with_reducible exact LeO.refl _)
      | (with_reducible exact LeO.none _)
      | (with_reducible refine LeO.ite ?_ ?_)
      | (with_reducible refine LeO.bind ?_ (fun _ => ?_))
      | exact ih0 _ _
      | exact ih1 _ _
      | exact lodestarlaw04_alive.mono _
      | exact varint_Get.mono _ _
      | exact varint_GetInt.mono _ _
      | exact varint_Put.mono _ _
      | exact varint_PutInt.mono _ _
      | exact LeO.none _
      | refine LeO.ite ?_ ?_
      | refine LeO.bind ?_ (fun _ => ?_)
    · intro y0 y1
      unfold lodestarlaw04_VarintBack.l0
      repeat' first
      | (with_reducible exact ih0 _ _)
      | (with_reducible exact ih1 _ _)
      | (with_reducible exact lodestarlaw04_alive.mono _)
      | (with_reducible exact varint_Get.mono _ _)
      | (with_reducible exact varint_GetInt.mono _ _)
      | (with_reducible exact varint_Put.mono _ _)
      | (with_reducible exact varint_PutInt.mono _ _)
      | (with_reducible exact LeO.refl _)
      | (with_reducible exact LeO.none _)
      | (with_reducible refine LeO.ite ?_ ?_)
      | (with_reducible refine LeO.bind ?_ (fun _ => ?_))
      | exact ih0 _ _
      | exact ih1 _ _
      | exact lodestarlaw04_alive.mono _
      | exact varint_Get.mono _ _
      | exact varint_GetInt.mono _ _
      | exact varint_Put.mono _ _
      | exact varint_PutInt.mono _ _
      | exact LeO.none _
      | refine LeO.ite ?_ ?_
      | refine LeO.bind ?_ (fun _ => ?_)
theorem lodestarlaw04_VarintBack.mono : ∀ a0 a1 k, LeO (lodestarlaw04_VarintBack.f k a0 a1) (lodestarlaw04_VarintBack.f (k + 1) a0 a1) := by
  intro a0 a1 k
  obtain ⟨ih0, ih1⟩ := lodestarlaw04_VarintBack.mono_l k
  unfold lodestarlaw04_VarintBack.f
  repeat' first
      | (with_reducible exact ih0 _ _)
      | (with_reducible exact ih1 _ _)
      | (with_reducible exact lodestarlaw04_alive.mono _)
      | (with_reducible exact varint_Get.mono _ _)
      | (with_reducible exact varint_GetInt.mono _ _)
      | (with_reducible exact varint_Put.mono _ _)
      | (with_reducible exact varint_PutInt.mono _ _)
      | (with_reducible exact LeO.refl _)
      | (with_reducible exact LeO.none _)
      | (with_reducible refine LeO.ite ?_ ?_)
      | (with_reducible refine LeO.bind ?_ (fun _ => ?_))
      | exact ih0 _ _
      | exact ih1 _ _
      | exact lodestarlaw04_alive.mono _
      | exact varint_Get.mono _ _
      | exact varint_GetInt.mono _ _
      | exact varint_Put.mono _ _
      | exact varint_PutInt.mono _ _
      | exact LeO.none _
      | refine LeO.ite ?_ ?_
      | refine LeO.bind ?_ (fun _ => ?_)
set_option maxHeartbeats 8000000 in
set_option maxRecDepth 100000 in
theorem lodestarlaw04_VarintBack.calls (k : Nat) (a0 : Int) (A1 : Option Addr) (c1 : Nat) (l1 : List Int) (r : Bool) (w : World) (hr1 : Kd.C (Kd.int .u8) w A1 l1.length l1) (hc1 : l1.length ≤ c1) (h : lodestarlaw04_VarintBack.f k a0 l1 = some r) :
    Calls Try.prog 9 #[.int .u64 a0, .slice A1 l1.length c1] w fun e w' => e = .returned (.bool r) ∧ Below w.heap.size w w' := by
  have HR1 := Aside0.mk hr1
  have HC1 := Aside0.mk hc1
  clear hr1 hc1
  have HB := Aside0.mk (Below.refl w.heap.size w)
  have H : ((lodestarlaw04_alive.f k).bind fun t126 => (if t126 = true then ((varint_Put.f k a0).bind fun t127 => ((some (([] : List Int) : List Int)).bind fun y130 => (if y130.length + t127.length < 140737488355328 then ((some (y130 ++ t127 : List Int)).bind fun y133 => (if y133.length + l1.length < 140737488355328 then ((varint_Get.f k (y133 ++ l1)).bind fun bt139 => ((varint_PutInt.f k (wrap64 (a0))).bind fun t142 => (if t142.length + l1.length < 140737488355328 then ((varint_GetInt.f k (t142 ++ l1)).bind fun bt148 => (if bt139.1 = a0 then (if bt139.2.1 = (t127.length : Int) then (if bt139.2.2 = 0 then (if bt148.1 = (wrap64 (a0)) then (if bt148.2.2 = 0 then ((varint_PutInt.f k (wrap64 (a0))).bind fun t151 => (lodestarlaw04_VarintBack.j0 k t127 (bt148.2.1 != (t151.length : Int)))) else (lodestarlaw04_VarintBack.j0 k t127 true)) else (lodestarlaw04_VarintBack.j0 k t127 true)) else (lodestarlaw04_VarintBack.j0 k t127 true)) else (lodestarlaw04_VarintBack.j0 k t127 true)) else (lodestarlaw04_VarintBack.j0 k t127 true))) else (none)))) else (none))) else (none)))) else (some false))) = some r := h
  clear h
  replace H := Option.bind_eq_some_iff.mp H
  obtain ⟨t126, A30, H⟩ := H
  replace H : (if t126 = true then ((varint_Put.f k a0).bind fun t127 => ((some (([] : List Int) : List Int)).bind fun y130 => (if y130.length + t127.length < 140737488355328 then ((some (y130 ++ t127 : List Int)).bind fun y133 => (if y133.length + l1.length < 140737488355328 then ((varint_Get.f k (y133 ++ l1)).bind fun bt139 => ((varint_PutInt.f k (wrap64 (a0))).bind fun t142 => (if t142.length + l1.length < 140737488355328 then ((varint_GetInt.f k (t142 ++ l1)).bind fun bt148 => (if bt139.1 = a0 then (if bt139.2.1 = (t127.length : Int) then (if bt139.2.2 = 0 then (if bt148.1 = (wrap64 (a0)) then (if bt148.2.2 = 0 then ((varint_PutInt.f k (wrap64 (a0))).bind fun t151 => (lodestarlaw04_VarintBack.j0 k t127 (bt148.2.1 != (t151.length : Int)))) else (lodestarlaw04_VarintBack.j0 k t127 true)) else (lodestarlaw04_VarintBack.j0 k t127 true)) else (lodestarlaw04_VarintBack.j0 k t127 true)) else (lodestarlaw04_VarintBack.j0 k t127 true)) else (lodestarlaw04_VarintBack.j0 k t127 true))) else (none)))) else (none))) else (none)))) else (some false)) = some r := H
  have A3 := Aside0.mk A30
  clear A30
  by_cases c4 : t126 = true
  · subst c4
    have H1 : ((varint_Put.f k a0).bind fun t127 => ((some (([] : List Int) : List Int)).bind fun y130 => (if y130.length + t127.length < 140737488355328 then ((some (y130 ++ t127 : List Int)).bind fun y133 => (if y133.length + l1.length < 140737488355328 then ((varint_Get.f k (y133 ++ l1)).bind fun bt139 => ((varint_PutInt.f k (wrap64 (a0))).bind fun t142 => (if t142.length + l1.length < 140737488355328 then ((varint_GetInt.f k (t142 ++ l1)).bind fun bt148 => (if bt139.1 = a0 then (if bt139.2.1 = (t127.length : Int) then (if bt139.2.2 = 0 then (if bt148.1 = (wrap64 (a0)) then (if bt148.2.2 = 0 then ((varint_PutInt.f k (wrap64 (a0))).bind fun t151 => (lodestarlaw04_VarintBack.j0 k t127 (bt148.2.1 != (t151.length : Int)))) else (lodestarlaw04_VarintBack.j0 k t127 true)) else (lodestarlaw04_VarintBack.j0 k t127 true)) else (lodestarlaw04_VarintBack.j0 k t127 true)) else (lodestarlaw04_VarintBack.j0 k t127 true)) else (lodestarlaw04_VarintBack.j0 k t127 true))) else (none)))) else (none))) else (none)))) = some r := by rw [if_pos rfl] at H; exact H
    clear H
    have H := H1
    clear H1
    replace H := Option.bind_eq_some_iff.mp H
    obtain ⟨t127, A50, H⟩ := H
    replace H : ((some (([] : List Int) : List Int)).bind fun y130 => (if y130.length + t127.length < 140737488355328 then ((some (y130 ++ t127 : List Int)).bind fun y133 => (if y133.length + l1.length < 140737488355328 then ((varint_Get.f k (y133 ++ l1)).bind fun bt139 => ((varint_PutInt.f k (wrap64 (a0))).bind fun t142 => (if t142.length + l1.length < 140737488355328 then ((varint_GetInt.f k (t142 ++ l1)).bind fun bt148 => (if bt139.1 = a0 then (if bt139.2.1 = (t127.length : Int) then (if bt139.2.2 = 0 then (if bt148.1 = (wrap64 (a0)) then (if bt148.2.2 = 0 then ((varint_PutInt.f k (wrap64 (a0))).bind fun t151 => (lodestarlaw04_VarintBack.j0 k t127 (bt148.2.1 != (t151.length : Int)))) else (lodestarlaw04_VarintBack.j0 k t127 true)) else (lodestarlaw04_VarintBack.j0 k t127 true)) else (lodestarlaw04_VarintBack.j0 k t127 true)) else (lodestarlaw04_VarintBack.j0 k t127 true)) else (lodestarlaw04_VarintBack.j0 k t127 true))) else (none)))) else (none))) else (none))) = some r := H
    have A5 := Aside0.mk A50
    clear A50
    obtain ⟨y130, hy130⟩ : ∃ y_ : List Int, y_ = (([] : List Int)) := ⟨_, rfl⟩
    replace H : (if y130.length + t127.length < 140737488355328 then ((some (y130 ++ t127 : List Int)).bind fun y133 => (if y133.length + l1.length < 140737488355328 then ((varint_Get.f k (y133 ++ l1)).bind fun bt139 => ((varint_PutInt.f k (wrap64 (a0))).bind fun t142 => (if t142.length + l1.length < 140737488355328 then ((varint_GetInt.f k (t142 ++ l1)).bind fun bt148 => (if bt139.1 = a0 then (if bt139.2.1 = (t127.length : Int) then (if bt139.2.2 = 0 then (if bt148.1 = (wrap64 (a0)) then (if bt148.2.2 = 0 then ((varint_PutInt.f k (wrap64 (a0))).bind fun t151 => (lodestarlaw04_VarintBack.j0 k t127 (bt148.2.1 != (t151.length : Int)))) else (lodestarlaw04_VarintBack.j0 k t127 true)) else (lodestarlaw04_VarintBack.j0 k t127 true)) else (lodestarlaw04_VarintBack.j0 k t127 true)) else (lodestarlaw04_VarintBack.j0 k t127 true)) else (lodestarlaw04_VarintBack.j0 k t127 true))) else (none)))) else (none))) else (none)) = some r := by first | (rw [hy130]; with_reducible exact H) | (have H2_ := (Option.bind_some _ _).symm.trans H; rw [hy130]; with_reducible exact H2_) | (have H2_ := (Option.bind_some _ _).symm.trans H; with_reducible exact H2_) | with_reducible exact H | (rw [hy130]; exact H) | exact H
    have Ny130 := Aside0.mk hy130
    clear hy130
    by_cases c6 : y130.length + t127.length < 140737488355328
    · rw [if_pos c6] at H
      have LMc6 := Aside0.mk c6
      clear c6
      obtain ⟨y133, hy133⟩ : ∃ y_ : List Int, y_ = (y130 ++ t127) := ⟨_, rfl⟩
      replace H : (if y133.length + l1.length < 140737488355328 then ((varint_Get.f k (y133 ++ l1)).bind fun bt139 => ((varint_PutInt.f k (wrap64 (a0))).bind fun t142 => (if t142.length + l1.length < 140737488355328 then ((varint_GetInt.f k (t142 ++ l1)).bind fun bt148 => (if bt139.1 = a0 then (if bt139.2.1 = (t127.length : Int) then (if bt139.2.2 = 0 then (if bt148.1 = (wrap64 (a0)) then (if bt148.2.2 = 0 then ((varint_PutInt.f k (wrap64 (a0))).bind fun t151 => (lodestarlaw04_VarintBack.j0 k t127 (bt148.2.1 != (t151.length : Int)))) else (lodestarlaw04_VarintBack.j0 k t127 true)) else (lodestarlaw04_VarintBack.j0 k t127 true)) else (lodestarlaw04_VarintBack.j0 k t127 true)) else (lodestarlaw04_VarintBack.j0 k t127 true)) else (lodestarlaw04_VarintBack.j0 k t127 true))) else (none)))) else (none)) = some r := by first | (rw [hy133]; with_reducible exact H) | (have H2_ := (Option.bind_some _ _).symm.trans H; rw [hy133]; with_reducible exact H2_) | (have H2_ := (Option.bind_some _ _).symm.trans H; with_reducible exact H2_) | with_reducible exact H | (rw [hy133]; exact H) | exact H
      have Ny133 := Aside0.mk hy133
      clear hy133
      by_cases c7 : y133.length + l1.length < 140737488355328
      · rw [if_pos c7] at H
        have LMc7 := Aside0.mk c7
        clear c7
        obtain ⟨y136, hy136⟩ : ∃ y_ : List Int, y_ = (y133 ++ l1) := ⟨_, rfl⟩
        replace H : ((varint_Get.f k y136).bind fun bt139 => ((varint_PutInt.f k (wrap64 (a0))).bind fun t142 => (if t142.length + l1.length < 140737488355328 then ((varint_GetInt.f k (t142 ++ l1)).bind fun bt148 => (if bt139.1 = a0 then (if bt139.2.1 = (t127.length : Int) then (if bt139.2.2 = 0 then (if bt148.1 = (wrap64 (a0)) then (if bt148.2.2 = 0 then ((varint_PutInt.f k (wrap64 (a0))).bind fun t151 => (lodestarlaw04_VarintBack.j0 k t127 (bt148.2.1 != (t151.length : Int)))) else (lodestarlaw04_VarintBack.j0 k t127 true)) else (lodestarlaw04_VarintBack.j0 k t127 true)) else (lodestarlaw04_VarintBack.j0 k t127 true)) else (lodestarlaw04_VarintBack.j0 k t127 true)) else (lodestarlaw04_VarintBack.j0 k t127 true))) else (none)))) = some r := by first | (rw [hy136]; with_reducible exact H) | (have H2_ := (Option.bind_some _ _).symm.trans H; rw [hy136]; with_reducible exact H2_) | (have H2_ := (Option.bind_some _ _).symm.trans H; with_reducible exact H2_) | with_reducible exact H | (rw [hy136]; exact H) | exact H
        have Ny136 := Aside0.mk hy136
        clear hy136
        replace H := Option.bind_eq_some_iff.mp H
        obtain ⟨⟨t139, t140, t141⟩, A80, H⟩ := H
        replace H : ((varint_PutInt.f k (wrap64 (a0))).bind fun t142 => (if t142.length + l1.length < 140737488355328 then ((varint_GetInt.f k (t142 ++ l1)).bind fun bt148 => (if t139 = a0 then (if t140 = (t127.length : Int) then (if t141 = 0 then (if bt148.1 = (wrap64 (a0)) then (if bt148.2.2 = 0 then ((varint_PutInt.f k (wrap64 (a0))).bind fun t151 => (lodestarlaw04_VarintBack.j0 k t127 (bt148.2.1 != (t151.length : Int)))) else (lodestarlaw04_VarintBack.j0 k t127 true)) else (lodestarlaw04_VarintBack.j0 k t127 true)) else (lodestarlaw04_VarintBack.j0 k t127 true)) else (lodestarlaw04_VarintBack.j0 k t127 true)) else (lodestarlaw04_VarintBack.j0 k t127 true))) else (none))) = some r := H
        have A8 := Aside0.mk A80
        clear A80
        replace H := Option.bind_eq_some_iff.mp H
        obtain ⟨t142, A90, H⟩ := H
        replace H : (if t142.length + l1.length < 140737488355328 then ((varint_GetInt.f k (t142 ++ l1)).bind fun bt148 => (if t139 = a0 then (if t140 = (t127.length : Int) then (if t141 = 0 then (if bt148.1 = (wrap64 (a0)) then (if bt148.2.2 = 0 then ((varint_PutInt.f k (wrap64 (a0))).bind fun t151 => (lodestarlaw04_VarintBack.j0 k t127 (bt148.2.1 != (t151.length : Int)))) else (lodestarlaw04_VarintBack.j0 k t127 true)) else (lodestarlaw04_VarintBack.j0 k t127 true)) else (lodestarlaw04_VarintBack.j0 k t127 true)) else (lodestarlaw04_VarintBack.j0 k t127 true)) else (lodestarlaw04_VarintBack.j0 k t127 true))) else (none)) = some r := H
        have A9 := Aside0.mk A90
        clear A90
        by_cases c10 : t142.length + l1.length < 140737488355328
        · rw [if_pos c10] at H
          have LMc10 := Aside0.mk c10
          clear c10
          obtain ⟨y145, hy145⟩ : ∃ y_ : List Int, y_ = (t142 ++ l1) := ⟨_, rfl⟩
          replace H : ((varint_GetInt.f k y145).bind fun bt148 => (if t139 = a0 then (if t140 = (t127.length : Int) then (if t141 = 0 then (if bt148.1 = (wrap64 (a0)) then (if bt148.2.2 = 0 then ((varint_PutInt.f k (wrap64 (a0))).bind fun t151 => (lodestarlaw04_VarintBack.j0 k t127 (bt148.2.1 != (t151.length : Int)))) else (lodestarlaw04_VarintBack.j0 k t127 true)) else (lodestarlaw04_VarintBack.j0 k t127 true)) else (lodestarlaw04_VarintBack.j0 k t127 true)) else (lodestarlaw04_VarintBack.j0 k t127 true)) else (lodestarlaw04_VarintBack.j0 k t127 true))) = some r := by first | (rw [hy145]; with_reducible exact H) | (have H2_ := (Option.bind_some _ _).symm.trans H; rw [hy145]; with_reducible exact H2_) | (have H2_ := (Option.bind_some _ _).symm.trans H; with_reducible exact H2_) | with_reducible exact H | (rw [hy145]; exact H) | exact H
          have Ny145 := Aside0.mk hy145
          clear hy145
          replace H := Option.bind_eq_some_iff.mp H
          obtain ⟨⟨t148, t149, t150⟩, A110, H⟩ := H
          replace H : (if t139 = a0 then (if t140 = (t127.length : Int) then (if t141 = 0 then (if t148 = (wrap64 (a0)) then (if t150 = 0 then ((varint_PutInt.f k (wrap64 (a0))).bind fun t151 => (lodestarlaw04_VarintBack.j0 k t127 (t149 != (t151.length : Int)))) else (lodestarlaw04_VarintBack.j0 k t127 true)) else (lodestarlaw04_VarintBack.j0 k t127 true)) else (lodestarlaw04_VarintBack.j0 k t127 true)) else (lodestarlaw04_VarintBack.j0 k t127 true)) else (lodestarlaw04_VarintBack.j0 k t127 true)) = some r := H
          have A11 := Aside0.mk A110
          clear A110
          have HC12 := Aside0.mk H
          clear H
          go_enter Try.func9, Try.ntmps9
          go_upto_region 7 with (first | ((with_reducible refine gate_callee (f := 10) rfl ?_); refine goesL_ (some 17) rfl rfl Try.func10 (by kernel_rfl) rfl #[] rfl (by (try simp only [List.map_toArray, List.map_cons, List.map_nil]); first | done | rfl | (simp only [List.length_drop, List.length_take]; rfl)) ?_; (with_reducible refine (lodestarlaw04_alive.calls k  true _ A3.out).mono ?_); rintro e w13 ⟨rfl, hb⟩; refine ⟨_, rfl, ?_⟩; have n0_ := Aside0.mk (below_step (by repeat (first | (with_reducible first | exact HB.out | apply below_alloc | apply pw_below_drewN | apply below_drew1) | exact HB.out)) hb); clear HB; have HB := n0_; clear n0_; (try clear hb); (try clear hb2); (try clear hk); (try clear hi)) | ((with_reducible refine gate_callee (f := 11) rfl ?_); refine goesL_ (some 20) rfl rfl Try.func11 (by kernel_rfl) rfl #[.int .u64 a0] rfl (by (try simp only [List.map_toArray, List.map_cons, List.map_nil]); first | done | rfl | (simp only [List.length_drop, List.length_take]; rfl)) ?_; (with_reducible refine (varint_Put.calls k a0 t127 _ A5.out).mono ?_); rintro e w14 ⟨v128, rfl, ho0, hb⟩; refine ⟨_, rfl, ?_⟩; have n0_ := Aside0.mk (Kd.R_lower ho0 (below_size (by repeat (first | (with_reducible first | exact HB.out | apply below_alloc | apply pw_below_drewN | apply below_drew1) | exact HB.out)))); have n1_ := Aside0.mk (below_step (by repeat (first | (with_reducible first | exact HB.out | apply below_alloc | apply pw_below_drewN | apply below_drew1) | exact HB.out)) hb); clear HB; have HO129 := n0_; have HB := n1_; clear n0_ n1_; (try clear hb); (try clear hb2); (try clear hk); (try clear hi); (try clear ho0)) | ((with_reducible refine gate_dst (N := 21) rfl ?_); (try (refine gate_guard (by rfl) ?_; dsimp only)); refine Kd.R_lit (Kd.int .u8) _ 5 ?hg (N := 21) ?hd (xs := ([] : List Int)) (inner := []) (ok := fun _ => True) (okp := fun _ => True) ?hr ?hp (fun _ hk => hk) trivial (Below.refl _ _) (Nat.le_refl _) (by simp) ?_; (case hd => rfl); (case hg => rfl); (case hr => first | (go_simp; done) | (go_simp; rfl)); (case hp => exact (Reps.none _ _)); intro v131 w15 ho16 hb hg_ hnew_; clear hg_ hnew_; (first | rw [← Ny130.out] at ho16 | (simp only [Int.reduceToNat] at ho16; rw [← Ny130.out] at ho16)); have n0_ := Aside0.mk (Kd.R_elder' (by (with_reducible repeat (first | apply Kd.R_alloc | apply Kd.R_drewN | apply Kd.R_drew)); exact HO129.out) (Kd.R_base ho16) hb); have n1_ := Aside0.mk (Kd.R_lower (Kd.R_new' ho16 (Kd.R_lt (by (with_reducible repeat (first | apply Kd.R_alloc | apply Kd.R_drewN | apply Kd.R_drew)); exact HO129.out))) (below_size (by repeat (first | (with_reducible first | exact HB.out | apply below_alloc | apply pw_below_drewN | apply below_drew1) | exact HB.out)))); have n2_ := Aside0.mk (below_step (by repeat (first | (with_reducible first | exact HB.out | apply below_alloc | apply pw_below_drewN | apply below_drew1) | exact HB.out)) hb); clear HO129; clear HB; have HO129 := n0_; have HO132 := n1_; have HB := n2_; clear n0_ n1_ n2_; clear hb ho16; obtain ⟨Ao18, co18, eo18⟩ := Kd.R_slice HO129.out; subst eo18) | ((with_reducible refine gate_builtin (b := .append) (xs := #[.tmp 21, .tmp 22]) rfl ?_); (try (refine gate_guard (by rfl) ?_; dsimp only)); at_builtin; refine Kd.R_append_rows (Kd.int .u8) (w0 := w) w.heap.size rfl (.tmp 21) (.tmp 22) 24 5 (.int .u8 0) 1 rfl Try.underlying24 info5 rfl (by decide) (by omega) v131 y130 t127 _ _ _ (fun k_ => some k_ ≠ (.slice Ao18 t127.length co18 : Value).ownBlock) (fun _ => False) rfl rfl ?aO ?aR (fun _ _ h => h) (fun _ h => h.elim) ?aF ?aB ?aS ?aL ?_; (case aR => repeat (first | exact (Kd.R_reads' HO129.out).2.2 | (with_reducible refine Kd.C_alloc ?_ _) | (with_reducible refine Kd.C_drewN ?_ _) | (with_reducible refine Kd.C_drew ?_))); (case aB => exact (by repeat (first | (with_reducible first | exact HB.out | apply below_alloc | apply pw_below_drewN | apply below_drew1) | exact HB.out))); (case aF => exact (fun k_ hk => Kd.fresh' (Kd.R_lt (by (with_reducible repeat (first | apply Kd.R_alloc | apply Kd.R_drewN | apply Kd.R_drew)); exact HO129.out)) k_ hk)); (case aO => exact (by (with_reducible repeat (first | apply Kd.R_alloc | apply Kd.R_drewN | apply Kd.R_drew)); exact Kd.R_mono HO132.out (fun _ hk => hk.2))); (case aS => exact (below_size (by repeat (first | (with_reducible first | exact HB.out | apply below_alloc | apply pw_below_drewN | apply below_drew1) | exact HB.out)))); (case aL => have := LMc6.out; omega); intro v134 w17 ho hb hg hat; rw [← Ny133.out] at ho; have n0_ := Aside0.mk (Kd.R_after (ok := (fun _ => True)) (by (with_reducible repeat (first | apply Kd.R_alloc | apply Kd.R_drewN | apply Kd.R_drew)); exact HO129.out) hg hat); have n1_ := Aside0.mk (hb); have n2_ := Aside0.mk (ho); clear HO129; clear HB; clear HO132; have HO129 := n0_; have HB := n1_; have HO135 := n2_; clear n0_ n1_ n2_; clear ho hb hg hat) | ((with_reducible refine gate_builtin (b := .append) (xs := #[.tmp 23, .tmp 24]) rfl ?_); (try (refine gate_guard (by rfl) ?_; dsimp only)); at_builtin; refine Kd.R_append_rows (Kd.int .u8) (w0 := w) w.heap.size rfl (.tmp 23) (.tmp 24) 24 5 (.int .u8 0) 1 rfl Try.underlying24 info5 rfl (by decide) (by omega) v134 y133 l1 _ _ _ (fun k_ => some k_ ≠ (.slice Ao18 t127.length co18 : Value).ownBlock) (fun _ => False) rfl rfl ?aO ?aR (fun _ _ h => h) (fun _ h => h.elim) ?aF ?aB ?aS ?aL ?_; (case aR => repeat (first | exact (Kd.C_below HR1.out HB.out) | (with_reducible refine Kd.C_alloc ?_ _) | (with_reducible refine Kd.C_drewN ?_ _) | (with_reducible refine Kd.C_drew ?_))); (case aB => exact (by repeat (first | (with_reducible first | exact HB.out | apply below_alloc | apply pw_below_drewN | apply below_drew1) | exact HB.out))); (case aF => exact (fun k_ hk => Kd.fresh' (Kd.R_lt (by (with_reducible repeat (first | apply Kd.R_alloc | apply Kd.R_drewN | apply Kd.R_drew)); exact HO129.out)) k_ hk)); (case aO => exact (by (with_reducible repeat (first | apply Kd.R_alloc | apply Kd.R_drewN | apply Kd.R_drew)); exact HO135.out)); (case aS => exact (below_size (by repeat (first | (with_reducible first | exact HB.out | apply below_alloc | apply pw_below_drewN | apply below_drew1) | exact HB.out)))); (case aL => have := LMc7.out; omega); intro v137 w19 ho hb hg hat; rw [← Ny136.out] at ho; have n0_ := Aside0.mk (Kd.R_after (ok := (fun _ => True)) (by (with_reducible repeat (first | apply Kd.R_alloc | apply Kd.R_drewN | apply Kd.R_drew)); exact HO129.out) hg hat); have n1_ := Aside0.mk (hb); have n2_ := Aside0.mk (ho); clear HO129; clear HB; clear HO135; have HO129 := n0_; have HB := n1_; have HO138 := n2_; clear n0_ n1_ n2_; clear ho hb hg hat; obtain ⟨Ao20, co20, eo20⟩ := Kd.R_slice HO138.out; subst eo20) | ((with_reducible refine gate_callee (f := 15) rfl ?_); refine goesL_ (some 28) rfl rfl Try.func15 (by kernel_rfl) rfl #[.slice Ao20 y136.length co20] rfl (by (try simp only [List.map_toArray, List.map_cons, List.map_nil]); first | done | rfl | (simp only [List.length_drop, List.length_take]; rfl)) ?_; (with_reducible refine (varint_Get.calls k _ _ y136 t139 t140 t141 _ ?side1 ?side2 A8.out).mono ?_); (case side1 => repeat (first | exact (Kd.R_reads' HO138.out).2.2 | (with_reducible refine Kd.C_alloc ?_ _) | (with_reducible refine Kd.C_drewN ?_ _) | (with_reducible refine Kd.C_drew ?_))); (case side2 => exact (Kd.R_reads' HO138.out).2.1); rintro e w' ⟨rfl, ⟨nd, rfl⟩⟩; refine ⟨_, rfl, ?_⟩) | ((with_reducible refine gate_callee (f := 13) rfl ?_); refine goesL_ (some 35) rfl rfl Try.func13 (by kernel_rfl) rfl #[.int .i64 (wrap64 (a0))] rfl (by (try simp only [List.map_toArray, List.map_cons, List.map_nil]); first | done | rfl | (simp only [List.length_drop, List.length_take]; rfl)) ?_; (with_reducible refine (varint_PutInt.calls k (wrap64 (a0)) t142 _ A9.out).mono ?_); rintro e w21 ⟨v143, rfl, ho0, hb⟩; refine ⟨_, rfl, ?_⟩; have n0_ := Aside0.mk (Kd.R_elder' (by (with_reducible repeat (first | apply Kd.R_alloc | apply Kd.R_drewN | apply Kd.R_drew)); exact HO129.out) (Kd.R_base ho0) hb); have n1_ := Aside0.mk (Kd.R_elder' (by (with_reducible repeat (first | apply Kd.R_alloc | apply Kd.R_drewN | apply Kd.R_drew)); exact HO138.out) (Kd.R_base ho0) hb); have n2_ := Aside0.mk (Kd.R_lower (Kd.R_new' (Kd.R_new' ho0 (Kd.R_lt (by (with_reducible repeat (first | apply Kd.R_alloc | apply Kd.R_drewN | apply Kd.R_drew)); exact HO129.out))) (Kd.R_lt (by (with_reducible repeat (first | apply Kd.R_alloc | apply Kd.R_drewN | apply Kd.R_drew)); exact HO138.out))) (below_size (by repeat (first | (with_reducible first | exact HB.out | apply below_alloc | apply pw_below_drewN | apply below_drew1) | exact HB.out)))); have n3_ := Aside0.mk (below_step (by repeat (first | (with_reducible first | exact HB.out | apply below_alloc | apply pw_below_drewN | apply below_drew1) | exact HB.out)) hb); clear HO129; clear HO138; clear HB; have HO129 := n0_; have HO138 := n1_; have HO144 := n2_; have HB := n3_; clear n0_ n1_ n2_ n3_; (try clear hb); (try clear hb2); (try clear hk); (try clear hi); (try clear ho0)) | ((with_reducible refine gate_builtin (b := .append) (xs := #[.tmp 35, .tmp 36]) rfl ?_); (try (refine gate_guard (by rfl) ?_; dsimp only)); at_builtin; refine Kd.R_append_rows (Kd.int .u8) (w0 := w) w.heap.size rfl (.tmp 35) (.tmp 36) 24 5 (.int .u8 0) 1 rfl Try.underlying24 info5 rfl (by decide) (by omega) v143 t142 l1 _ _ _ (fun k_ => some k_ ≠ (.slice Ao18 t127.length co18 : Value).ownBlock ∧ some k_ ≠ (.slice Ao20 y136.length co20 : Value).ownBlock) (fun _ => False) rfl rfl ?aO ?aR (fun _ _ h => h) (fun _ h => h.elim) ?aF ?aB ?aS ?aL ?_; (case aR => repeat (first | exact (Kd.C_below HR1.out HB.out) | (with_reducible refine Kd.C_alloc ?_ _) | (with_reducible refine Kd.C_drewN ?_ _) | (with_reducible refine Kd.C_drew ?_))); (case aB => exact (by repeat (first | (with_reducible first | exact HB.out | apply below_alloc | apply pw_below_drewN | apply below_drew1) | exact HB.out))); (case aF => exact (fun k_ hk => ⟨Kd.fresh' (Kd.R_lt (by (with_reducible repeat (first | apply Kd.R_alloc | apply Kd.R_drewN | apply Kd.R_drew)); exact HO129.out)) k_ hk, Kd.fresh' (Kd.R_lt (by (with_reducible repeat (first | apply Kd.R_alloc | apply Kd.R_drewN | apply Kd.R_drew)); exact HO138.out)) k_ hk⟩)); (case aO => exact (by (with_reducible repeat (first | apply Kd.R_alloc | apply Kd.R_drewN | apply Kd.R_drew)); exact Kd.R_mono HO144.out (fun _ hk => ⟨hk.1.2, hk.2⟩))); (case aS => exact (below_size (by repeat (first | (with_reducible first | exact HB.out | apply below_alloc | apply pw_below_drewN | apply below_drew1) | exact HB.out)))); (case aL => have := LMc10.out; omega); intro v146 w22 ho hb hg hat; rw [← Ny145.out] at ho; have n0_ := Aside0.mk (Kd.R_after (ok := (fun k_ => some k_ ≠ (.slice Ao20 y136.length co20 : Value).ownBlock)) (by (with_reducible repeat (first | apply Kd.R_alloc | apply Kd.R_drewN | apply Kd.R_drew)); exact Kd.R_mono HO129.out (fun _ hk => ⟨hk.1.2, hk.2⟩)) hg hat); have n1_ := Aside0.mk (Kd.R_after (ok := (fun k_ => some k_ ≠ (.slice Ao18 t127.length co18 : Value).ownBlock)) (by (with_reducible repeat (first | apply Kd.R_alloc | apply Kd.R_drewN | apply Kd.R_drew)); exact HO138.out) hg hat); have n2_ := Aside0.mk (hb); have n3_ := Aside0.mk (ho); clear HO129; clear HO138; clear HB; clear HO144; have HO129 := n0_; have HO138 := n1_; have HB := n2_; have HO147 := n3_; clear n0_ n1_ n2_ n3_; clear ho hb hg hat; obtain ⟨Ao23, co23, eo23⟩ := Kd.R_slice HO147.out; subst eo23) | ((with_reducible refine gate_callee (f := 17) rfl ?_); refine goesL_ (some 38) rfl rfl Try.func17 (by kernel_rfl) rfl #[.slice Ao23 y145.length co23] rfl (by (try simp only [List.map_toArray, List.map_cons, List.map_nil]); first | done | rfl | (simp only [List.length_drop, List.length_take]; rfl)) ?_; (with_reducible refine (varint_GetInt.calls k _ _ y145 t148 t149 t150 _ ?side1 ?side2 A11.out).mono ?_); (case side1 => repeat (first | exact (Kd.R_reads' HO147.out).2.2 | (with_reducible refine Kd.C_alloc ?_ _) | (with_reducible refine Kd.C_drewN ?_ _) | (with_reducible refine Kd.C_drew ?_))); (case side2 => exact (Kd.R_reads' HO147.out).2.1); rintro e w' ⟨rfl, ⟨nd, rfl⟩⟩; refine ⟨_, rfl, ?_⟩))
          (try simp only [Act.put, List.setIfInBounds_toArray, List.set_cons_zero, List.set_cons_succ])
          go_cut [72] (fun v72 wc => ∃ (kq : Nat) (x72_11 : Bool), v72 = .bool x72_11 ∧ Aside0 (lodestarlaw04_VarintBack.j0 kq t127 x72_11 = some r) ∧ Aside0 (kq ≤ k) ∧ Aside0 (Kd.R (Kd.int .u8) 5 wc w.heap.size (fun _ => True) (.slice Ao18 t127.length co18) t127) ∧ Aside0 (Below w.heap.size w wc))
          case first =>
            have H := HC12.out
            clear HC12
            by_cases c24 : t139 = a0
            · rw [if_pos c24] at H
              have c24b0 : (t139 == a0) = true := beq_iff_eq.mpr c24
              have c24b1 : (t139 != a0) = false := bne_eq_false_iff_eq.mpr c24
              clear c24
              (first | rw [c24b0] | (simp only [i64_w, i32_w]; rw [c24b0]) | skip)
              by_cases c25 : t140 = (t127.length : Int)
              · rw [if_pos c25] at H
                have c25b0 : (t140 == (t127.length : Int)) = true := beq_iff_eq.mpr c25
                have c25b1 : (t140 != (t127.length : Int)) = false := bne_eq_false_iff_eq.mpr c25
                clear c25
                by_cases c26 : t141 = 0
                · rw [if_pos c26] at H
                  have c26b0 : (t141 == 0) = true := beq_iff_eq.mpr c26
                  have c26b1 : (t141 != 0) = false := bne_eq_false_iff_eq.mpr c26
                  clear c26
                  by_cases c27 : t148 = (wrap64 (a0))
                  · rw [if_pos c27] at H
                    have c27b0 : (t148 == (wrap64 (a0))) = true := beq_iff_eq.mpr c27
                    have c27b1 : (t148 != (wrap64 (a0))) = false := bne_eq_false_iff_eq.mpr c27
                    clear c27
                    by_cases c28 : t150 = 0
                    · rw [if_pos c28] at H
                      have c28b0 : (t150 == 0) = true := beq_iff_eq.mpr c28
                      have c28b1 : (t150 != 0) = false := bne_eq_false_iff_eq.mpr c28
                      clear c28
                      replace H := Option.bind_eq_some_iff.mp H
                      obtain ⟨t151, A290, H⟩ := H
                      replace H : (lodestarlaw04_VarintBack.j0 k t127 (t149 != (t151.length : Int))) = some r := H
                      have A29 := Aside0.mk A290
                      clear A290
                      have H' := Aside0.mk H
                      clear H
                      go_wp2_with (first | (go_at_call 13; (with_reducible refine (varint_PutInt.calls k (wrap64 (a0)) t151 _ A29.out).mono ?_); rintro e w30 ⟨v152, rfl, ho0, hb⟩; have n0_ := Aside0.mk (Kd.R_elder' (by (with_reducible repeat (first | apply Kd.R_alloc | apply Kd.R_drewN | apply Kd.R_drew)); exact HO129.out) (Kd.R_base ho0) hb); have n1_ := Aside0.mk (Kd.R_elder' (by (with_reducible repeat (first | apply Kd.R_alloc | apply Kd.R_drewN | apply Kd.R_drew)); exact HO138.out) (Kd.R_base ho0) hb); have n2_ := Aside0.mk (Kd.R_elder' (by (with_reducible repeat (first | apply Kd.R_alloc | apply Kd.R_drewN | apply Kd.R_drew)); exact HO147.out) (Kd.R_base ho0) hb); have n3_ := Aside0.mk (Kd.R_lower (Kd.R_new' (Kd.R_new' (Kd.R_new' ho0 (Kd.R_lt (by (with_reducible repeat (first | apply Kd.R_alloc | apply Kd.R_drewN | apply Kd.R_drew)); exact HO129.out))) (Kd.R_lt (by (with_reducible repeat (first | apply Kd.R_alloc | apply Kd.R_drewN | apply Kd.R_drew)); exact HO138.out))) (Kd.R_lt (by (with_reducible repeat (first | apply Kd.R_alloc | apply Kd.R_drewN | apply Kd.R_drew)); exact HO147.out))) (below_size (by repeat (first | (with_reducible first | exact HB.out | apply below_alloc | apply pw_below_drewN | apply below_drew1) | exact HB.out)))); have n4_ := Aside0.mk (below_step (by repeat (first | (with_reducible first | exact HB.out | apply below_alloc | apply pw_below_drewN | apply below_drew1) | exact HB.out)) hb); clear HO129; clear HO138; clear HO147; clear HB; have HO129 := n0_; have HO138 := n1_; have HO147 := n2_; have HO153 := n3_; have HB := n4_; clear n0_ n1_ n2_ n3_ n4_; (try clear hb); (try clear hb2); (try clear hk); (try clear hi); (try clear ho0); obtain ⟨Ao31, co31, eo31⟩ := Kd.R_slice HO153.out; subst eo31))
                      go_meet
                      case rel => exact ⟨_, ((t149 != (t151.length : Int))), (by first | rfl | (simp; done) | (simp [*]; done)), H', ⟨by first | omega | exact Nat.le_refl _⟩, ⟨by (with_reducible repeat (first | apply Kd.R_alloc | apply Kd.R_drewN | apply Kd.R_drew)); exact Kd.R_mono HO129.out (fun _ hk => trivial)⟩, ⟨by repeat (first | (with_reducible first | exact HB.out | apply below_alloc | apply pw_below_drewN | apply below_drew1) | exact HB.out)⟩⟩
                    · rw [if_neg c28] at H
                      have c28b0 : (t150 == 0) = false := beq_eq_false_iff_ne.mpr c28
                      have c28b1 : (t150 != 0) = true := bne_iff_ne.mpr c28
                      have H' := Aside0.mk H
                      clear H
                      go_wp2
                      go_meet
                      case rel => exact ⟨_, (true), (by first | rfl | (simp; done) | (simp [*]; done)), H', ⟨by first | omega | exact Nat.le_refl _⟩, ⟨by (with_reducible repeat (first | apply Kd.R_alloc | apply Kd.R_drewN | apply Kd.R_drew)); exact Kd.R_mono HO129.out (fun _ hk => trivial)⟩, ⟨by repeat (first | (with_reducible first | exact HB.out | apply below_alloc | apply pw_below_drewN | apply below_drew1) | exact HB.out)⟩⟩
                  · rw [if_neg c27] at H
                    have c27b0 : (t148 == (wrap64 (a0))) = false := beq_eq_false_iff_ne.mpr c27
                    have c27b1 : (t148 != (wrap64 (a0))) = true := bne_iff_ne.mpr c27
                    have H' := Aside0.mk H
                    clear H
                    go_wp2
                    go_meet
                    case rel => exact ⟨_, (true), (by first | rfl | (simp; done) | (simp [*]; done)), H', ⟨by first | omega | exact Nat.le_refl _⟩, ⟨by (with_reducible repeat (first | apply Kd.R_alloc | apply Kd.R_drewN | apply Kd.R_drew)); exact Kd.R_mono HO129.out (fun _ hk => trivial)⟩, ⟨by repeat (first | (with_reducible first | exact HB.out | apply below_alloc | apply pw_below_drewN | apply below_drew1) | exact HB.out)⟩⟩
                · rw [if_neg c26] at H
                  have c26b0 : (t141 == 0) = false := beq_eq_false_iff_ne.mpr c26
                  have c26b1 : (t141 != 0) = true := bne_iff_ne.mpr c26
                  have H' := Aside0.mk H
                  clear H
                  go_wp2
                  go_meet
                  case rel => exact ⟨_, (true), (by first | rfl | (simp; done) | (simp [*]; done)), H', ⟨by first | omega | exact Nat.le_refl _⟩, ⟨by (with_reducible repeat (first | apply Kd.R_alloc | apply Kd.R_drewN | apply Kd.R_drew)); exact Kd.R_mono HO129.out (fun _ hk => trivial)⟩, ⟨by repeat (first | (with_reducible first | exact HB.out | apply below_alloc | apply pw_below_drewN | apply below_drew1) | exact HB.out)⟩⟩
              · rw [if_neg c25] at H
                have c25b0 : (t140 == (t127.length : Int)) = false := beq_eq_false_iff_ne.mpr c25
                have c25b1 : (t140 != (t127.length : Int)) = true := bne_iff_ne.mpr c25
                have H' := Aside0.mk H
                clear H
                go_wp2
                go_meet
                case rel => exact ⟨_, (true), (by first | rfl | (simp; done) | (simp [*]; done)), H', ⟨by first | omega | exact Nat.le_refl _⟩, ⟨by (with_reducible repeat (first | apply Kd.R_alloc | apply Kd.R_drewN | apply Kd.R_drew)); exact Kd.R_mono HO129.out (fun _ hk => trivial)⟩, ⟨by repeat (first | (with_reducible first | exact HB.out | apply below_alloc | apply pw_below_drewN | apply below_drew1) | exact HB.out)⟩⟩
            · rw [if_neg c24] at H
              have c24b0 : (t139 == a0) = false := beq_eq_false_iff_ne.mpr c24
              have c24b1 : (t139 != a0) = true := bne_iff_ne.mpr c24
              (first | rw [c24b0] | (simp only [i64_w, i32_w]; rw [c24b0]) | skip)
              have H' := Aside0.mk H
              clear H
              go_wp2
              go_meet
              case rel => exact ⟨_, (true), (by first | rfl | (simp; done) | (simp [*]; done)), H', ⟨by first | omega | exact Nat.le_refl _⟩, ⟨by (with_reducible repeat (first | apply Kd.R_alloc | apply Kd.R_drewN | apply Kd.R_drew)); exact Kd.R_mono HO129.out (fun _ hk => trivial)⟩, ⟨by repeat (first | (with_reducible first | exact HB.out | apply below_alloc | apply pw_below_drewN | apply below_drew1) | exact HB.out)⟩⟩
          case rest =>
            clear HC12
            try clear c1
            try clear c2
            try clear p2
            try clear c4
            try clear c6
            try clear p6
            try clear c7
            try clear c9
            try clear c10
            try clear c11
            try clear c13
            try clear c15
            try clear c17
            try clear c24
            try clear c24b0
            try clear c24b1
            try clear c25
            try clear c25b0
            try clear c25b1
            try clear c26
            try clear c26b0
            try clear c26b1
            try clear c27
            try clear c27b0
            try clear c27b1
            try clear c28
            try clear c28b0
            try clear c28b1
            obtain ⟨kq, x72_11, rfl, HA, HJ11, HO_5, HB⟩ := hcut
            cases kq with
            | zero => exact absurd HA.out (by simp [lodestarlaw04_VarintBack.j0])
            | succ kj11 =>
              have H := HA.out
              clear HA
              simp only [lodestarlaw04_VarintBack.j0] at H
              by_cases c32 : x72_11 = true
              · subst c32
                have H1 : (some false) = some r := by rw [if_pos rfl] at H; exact H
                clear H
                have H := H1
                clear H1
                obtain rfl := Option.some.inj H
                go_wp2
                go_ret
                exact ⟨by first | rfl | (simp [errW_none, errW_some] <;> rfl) | (simp [*, errW_none, errW_some] <;> rfl), by repeat (first | (with_reducible first | exact HB.out | apply below_alloc | apply pw_below_drewN | apply below_drew1) | exact HB.out)⟩
              · replace c32 := Bool.eq_false_iff.mpr c32
                subst c32
                have H1 : (lodestarlaw04_VarintBack.l0 kj11 t127 0) = some r := by rw [if_neg (show ¬ (false = true) by decide)] at H; exact H
                clear H
                have H := H1
                clear H1
                have H' := Aside0.mk H
                clear H
                go_wp2
                go_loopg [13] kj11 (fun kq v13 w' => ∃ (x13_2 : Int), v13 = .int .i64 x13_2 ∧ Aside0 (lodestarlaw04_VarintBack.l0 kq t127 x13_2 = some r) ∧ Aside0 (kq ≤ kj11) ∧ Aside0 (Kd.R (Kd.int .u8) 5 w' w.heap.size (fun _ => True) (.slice Ao18 t127.length co18) t127) ∧ Aside0 (Below w.heap.size w w'))
                case atStart => exact ⟨(0), (by first | rfl | (simp; done) | (simp [*]; done)), H', ⟨Nat.le_refl _⟩, ⟨by (with_reducible repeat (first | apply Kd.R_alloc | apply Kd.R_drewN | apply Kd.R_drew)); exact HO_5.out⟩, ⟨by repeat (first | (with_reducible first | exact HB.out | apply below_alloc | apply pw_below_drewN | apply below_drew1) | exact HB.out)⟩⟩
                case round =>
                  clear H'
                  try clear c1
                  try clear c2
                  try clear p2
                  try clear c3
                  try clear c4
                  try clear c6
                  try clear p6
                  try clear c7
                  try clear c9
                  try clear c10
                  try clear c11
                  try clear c13
                  try clear c15
                  try clear c17
                  try clear c24
                  try clear c24b0
                  try clear c24b1
                  try clear c25
                  try clear c25b0
                  try clear c25b1
                  try clear c26
                  try clear c26b0
                  try clear c26b1
                  try clear c27
                  try clear c27b0
                  try clear c27b1
                  try clear c28
                  try clear c28b0
                  try clear c28b1
                  try clear c32
                  try clear p2
                  try clear p6
                  obtain ⟨x13_2, rfl, HA, HK2, HO_5, HB⟩ := hrel
                  cases gk with
                  | zero => exact absurd HA.out (by simp [lodestarlaw04_VarintBack.l0])
                  | succ k2 =>
                    have H := HA.out
                    clear HA
                    simp only [lodestarlaw04_VarintBack.l0] at H
                    by_cases c33 : x13_2 < (t127.length : Int)
                    · rw [if_pos c33] at H
                      have c33b0 : decide (x13_2 < (t127.length : Int)) = true := decide_eq_true c33
                      clear c33
                      by_cases c34 : 0 ≤ x13_2
                      · rw [if_pos c34] at H
                        have c34b0 := eq_true c34
                        have c34b1 : decide (0 ≤ x13_2) = true := decide_eq_true c34
                        clear c34
                        by_cases c35 : x13_2 ≤ (t127.length : Int)
                        · rw [if_pos c35] at H
                          have c35b0 := eq_true c35
                          have c35b1 : decide (x13_2 ≤ (t127.length : Int)) = true := decide_eq_true c35
                          clear c35
                          obtain ⟨y154, hy154⟩ : ∃ y_ : List Int, y_ = (t127.take (x13_2 : Int).toNat) := ⟨_, rfl⟩
                          replace H : ((varint_Get.f k2 y154).bind fun bt158 => (if bt158.2.2 = 40 then (lodestarlaw04_VarintBack.l0 k2 t127 (wrap64 (x13_2 + 1))) else (some false))) = some r := by first | (rw [hy154]; with_reducible exact H) | (have H2_ := (Option.bind_some _ _).symm.trans H; rw [hy154]; with_reducible exact H2_) | (have H2_ := (Option.bind_some _ _).symm.trans H; with_reducible exact H2_) | with_reducible exact H | (rw [hy154]; exact H) | exact H
                          have Ny154 := Aside0.mk hy154
                          clear hy154
                          replace H := Option.bind_eq_some_iff.mp H
                          obtain ⟨⟨t158, t159, t160⟩, A360, H⟩ := H
                          replace H : (if t160 = 40 then (lodestarlaw04_VarintBack.l0 k2 t127 (wrap64 (x13_2 + 1))) else (some false)) = some r := H
                          have A36 := Aside0.mk A360
                          clear A360
                          by_cases c37 : t160 = 40
                          · rw [if_pos c37] at H
                            have c37b0 : (t160 == 40) = true := beq_iff_eq.mpr c37
                            have c37b1 : (t160 != 40) = false := bne_eq_false_iff_eq.mpr c37
                            clear c37
                            have H' := Aside0.mk H
                            clear H
                            have q38 : (x13_2 : Int) ≤ ((t127.length : Int) : Int) := of_decide_eq_true (by first | (with_reducible assumption) | assumption)
                            obtain ⟨i038, hi038, _, hsz38, _⟩ := info_parts info5
                            have hroom38 : t127.length ≤ co18 := (Kd.R_reads' HO_5.out).2.1
                            have hC38 : Kd.C (Kd.int .u8) _ Ao18 t127.length t127 := (Kd.R_reads' HO_5.out).2.2
                            have hcut38 := cut_to (P := Try.prog) 24 5 .i64 Try.underlying24 hi038 Ao18 t127.length co18 x13_2 (of_decide_eq_true (by first | (with_reducible assumption) | assumption)) q38 hroom38
                            have hr38 := Kd.C_take (m := (x13_2 : Int).toNat) hC38 (by omega)
                            have hy38 : y154.length = (x13_2 : Int).toNat := (by rw [Ny154.out, List.length_take]; omega)
                            rw [← Ny154.out] at hr38
                            rw [← hy38] at hcut38
                            have HR157 := Aside0.mk hr38
                            have HC157 := Aside0.mk (show y154.length ≤ co18 from by omega)
                            clear hr38 hC38 hroom38 hi038 hsz38
                            have KY38 := Aside0.mk hy38
                            clear hy38
                            have KL38 := Aside0.mk (show (x13_2 : Int).toNat ≤ t127.length from by omega)
                            replace q38 := eq_true q38
                            go_wp2_with (first | ((with_reducible refine gate_callee (f := 15) rfl ?_); refine goesL_ (some 83) rfl rfl Try.func15 (by kernel_rfl) rfl #[.slice Ao18 y154.length co18] rfl (by (try simp only [List.map_toArray, List.map_cons, List.map_nil]); first | done | rfl | (simp only [List.length_drop, List.length_take]; rfl)) ?_; (with_reducible refine (varint_Get.calls k2 _ _ y154 t158 t159 t160 _ ?side1 ?side2 A36.out).mono ?_); (case side1 => repeat (first | exact (by repeat (first | (with_reducible exact HR157.out) | (with_reducible refine Kd.C_alloc ?_ _) | (with_reducible refine Kd.C_drewN ?_ _) | (with_reducible refine Kd.C_drew ?_) | exact HR157.out)) | (with_reducible refine Kd.C_alloc ?_ _) | (with_reducible refine Kd.C_drewN ?_ _) | (with_reducible refine Kd.C_drew ?_))); (case side2 => exact HC157.out); rintro e w' ⟨rfl, ⟨nd, rfl⟩⟩; refine ⟨_, rfl, ?_⟩))
                            go_roundg k2
                            case measure => have := HJ11.out; have := HK2.out; omega
                            case rel => exact ⟨(wrap64 (x13_2 + 1)), (by first | rfl | (simp; done) | (simp [*]; done)), H', ⟨by have := HJ11.out; have := HK2.out; omega⟩, ⟨by (with_reducible repeat (first | apply Kd.R_alloc | apply Kd.R_drewN | apply Kd.R_drew)); exact HO_5.out⟩, ⟨by repeat (first | (with_reducible first | exact HB.out | apply below_alloc | apply pw_below_drewN | apply below_drew1) | exact HB.out)⟩⟩
                          · rw [if_neg c37] at H
                            have c37b0 : (t160 == 40) = false := beq_eq_false_iff_ne.mpr c37
                            have c37b1 : (t160 != 40) = true := bne_iff_ne.mpr c37
                            obtain rfl := Option.some.inj H
                            have q39 : (x13_2 : Int) ≤ ((t127.length : Int) : Int) := of_decide_eq_true (by first | (with_reducible assumption) | assumption)
                            obtain ⟨i039, hi039, _, hsz39, _⟩ := info_parts info5
                            have hroom39 : t127.length ≤ co18 := (Kd.R_reads' HO_5.out).2.1
                            have hC39 : Kd.C (Kd.int .u8) _ Ao18 t127.length t127 := (Kd.R_reads' HO_5.out).2.2
                            have hcut39 := cut_to (P := Try.prog) 24 5 .i64 Try.underlying24 hi039 Ao18 t127.length co18 x13_2 (of_decide_eq_true (by first | (with_reducible assumption) | assumption)) q39 hroom39
                            have hr39 := Kd.C_take (m := (x13_2 : Int).toNat) hC39 (by omega)
                            have hy39 : y154.length = (x13_2 : Int).toNat := (by rw [Ny154.out, List.length_take]; omega)
                            rw [← Ny154.out] at hr39
                            rw [← hy39] at hcut39
                            have HR157 := Aside0.mk hr39
                            have HC157 := Aside0.mk (show y154.length ≤ co18 from by omega)
                            clear hr39 hC39 hroom39 hi039 hsz39
                            have KY39 := Aside0.mk hy39
                            clear hy39
                            have KL39 := Aside0.mk (show (x13_2 : Int).toNat ≤ t127.length from by omega)
                            replace q39 := eq_true q39
                            go_wp2_with (first | ((with_reducible refine gate_callee (f := 15) rfl ?_); refine goesL_ (some 83) rfl rfl Try.func15 (by kernel_rfl) rfl #[.slice Ao18 y154.length co18] rfl (by (try simp only [List.map_toArray, List.map_cons, List.map_nil]); first | done | rfl | (simp only [List.length_drop, List.length_take]; rfl)) ?_; (with_reducible refine (varint_Get.calls k2 _ _ y154 t158 t159 t160 _ ?side1 ?side2 A36.out).mono ?_); (case side1 => repeat (first | exact (by repeat (first | (with_reducible exact HR157.out) | (with_reducible refine Kd.C_alloc ?_ _) | (with_reducible refine Kd.C_drewN ?_ _) | (with_reducible refine Kd.C_drew ?_) | exact HR157.out)) | (with_reducible refine Kd.C_alloc ?_ _) | (with_reducible refine Kd.C_drewN ?_ _) | (with_reducible refine Kd.C_drew ?_))); (case side2 => exact HC157.out); rintro e w' ⟨rfl, ⟨nd, rfl⟩⟩; refine ⟨_, rfl, ?_⟩))
                            go_ret
                            exact ⟨by first | rfl | (simp [errW_none, errW_some] <;> rfl) | (simp [*, errW_none, errW_some] <;> rfl), by repeat (first | (with_reducible first | exact HB.out | apply below_alloc | apply pw_below_drewN | apply below_drew1) | exact HB.out)⟩
                        · rw [if_neg c35] at H
                          exact absurd H (by simp)
                      · rw [if_neg c34] at H
                        exact absurd H (by simp)
                    · rw [if_neg c33] at H
                      have c33b0 : decide (x13_2 < (t127.length : Int)) = false := decide_eq_false c33
                      clear c33
                      obtain rfl := Option.some.inj H
                      go_wp2
                      go_ret
                      exact ⟨by first | rfl | (simp [errW_none, errW_some] <;> rfl) | (simp [*, errW_none, errW_some] <;> rfl), by repeat (first | (with_reducible first | exact HB.out | apply below_alloc | apply pw_below_drewN | apply below_drew1) | exact HB.out)⟩
        · rw [if_neg c10] at H
          exact absurd H (by simp)
      · rw [if_neg c7] at H
        exact absurd H (by simp)
    · rw [if_neg c6] at H
      exact absurd H (by simp)
  · replace c4 := Bool.eq_false_iff.mpr c4
    subst c4
    have H1 : (some false) = some r := by rw [if_neg (show ¬ (false = true) by decide)] at H; exact H
    clear H
    have H := H1
    clear H1
    obtain rfl := Option.some.inj H
    go_enter Try.func9, Try.ntmps9
    go_wp2_with (first | ((with_reducible refine gate_callee (f := 10) rfl ?_); refine goesL_ (some 17) rfl rfl Try.func10 (by kernel_rfl) rfl #[] rfl (by (try simp only [List.map_toArray, List.map_cons, List.map_nil]); first | done | rfl | (simp only [List.length_drop, List.length_take]; rfl)) ?_; (with_reducible refine (lodestarlaw04_alive.calls k  false _ A3.out).mono ?_); rintro e w40 ⟨rfl, hb⟩; refine ⟨_, rfl, ?_⟩; have n0_ := Aside0.mk (below_step (by repeat (first | (with_reducible first | exact HB.out | apply below_alloc | apply pw_below_drewN | apply below_drew1) | exact HB.out)) hb); clear HB; have HB := n0_; clear n0_; (try clear hb); (try clear hb2); (try clear hk); (try clear hi)))
    go_ret
    exact ⟨by first | rfl | (simp [errW_none, errW_some] <;> rfl) | (simp [*, errW_none, errW_some] <;> rfl), by repeat (first | (with_reducible first | exact HB.out | apply below_alloc | apply pw_below_drewN | apply below_drew1) | exact HB.out)⟩

/-- THE ONE PURE STATEMENT of lodestarlaw04_VarintBack: yours. -/
def lodestarlaw04_VarintBack.Pure : Prop := ∀ (a0 : Int) (l1 : List Int), (Lit.int .u64 a0).wf = true → l1.length ≤ maxLen → l1.length * 1 ≤ 140737488351232 → (∀ x ∈ l1, (Lit.int .u8 x).wf = true) → ∃ k, lodestarlaw04_VarintBack.f k a0 l1 = some true
theorem lodestarlaw04_VarintBack.walk (P : lodestarlaw04_VarintBack.Pure) (a0 : Int) (a1 : Option Addr) (len1 cap1 : Nat) (z1 : List Int) (w : World) (w0 : (Lit.int .u64 a0).wf = true) (w1 : (a1 = none ∧ len1 = 0 ∧ cap1 = 0 ∧ z1 = []) ∨ ∃ x, a1 = some x ∧ len1 ≤ cap1 ∧ cap1 ≤ maxLen ∧ z1.length = cap1 ∧ (∀ i, i < z1.length → w.cell? (x.add i) = some (.int .u8 (z1.getD i 0))) ∧ ∀ n ∈ z1, (Lit.int .u8 n).wf = true) (y1 : len1 * 1 ≤ 140737488351232) :
    Calls Try.prog 9 #[.int .u64 a0, .slice a1 len1 cap1] w fun e w' => e = .returned (.bool true) ∧ Below w.heap.size w w' := by
  obtain ⟨l1, rfl, hr1, hm1, hw1, hc1⟩ := ReadsInt.ofRowC w1
  obtain ⟨k, h⟩ := P a0 l1 w0 hm1 y1 hw1
  refine (lodestarlaw04_VarintBack.calls k a0 _ _ l1 true w (Kd.C_of_reads (d := (0 : Int)) (h1 := fun _ => rfl) hr1) hc1 h).mono ?_
  rintro e w' ⟨rfl, hd⟩
  exact ⟨rfl, hd⟩

end Go.Proofs.Ytoaihmfaecfakaa.PVarintBack
