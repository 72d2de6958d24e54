/- The law that frames that are encoded, one behind the other, are found in order, in whatever pieces: the walk. Conditions: those of its row. -/
import Derived.Test.YtnlibeaainbipaaFfindp
import Derived.Test.YtnlibeaainbipaaFalive
import Derived.Test.YtnlibeaainbipaaGmgreat
import Derived.Test.YtnlibeaainbipaaMfng
namespace Go.Proofs.Ytnlibeaainbipaa.F
open Go.RowKit Go.Proofs.Ytnlibeaainbipaa.M Go.Proofs.Ytnlibeaainbipaa.V
open Nat (reduceEqDiff reduceAdd reduceLeDiff)
open Int (reduceToNat reducePow reduceEq reduceLE)
set_option linter.unusedSimpArgs false
set_option linter.unusedVariables false
set_option maxRecDepth 20000
theorem opens_msgs : Opens Try.prog (Kind.list kMsg (Nat.succ_pos 27)) 22 := opens_list (Nat.succ_pos 27) Try.underlying22 (by kernel_rfl) opens_msg
theorem own_apart {e e' : TypeId} {kd : IntKind} {b lo : Nat} {w : World} {v v' : Value} {xs : List Int} {α : Type} {K : Kind α} {U : Nat → Prop} {ys : List α} (h : OwnI e kd b w v xs) (h' : OwnR K e' U lo w v' ys) (hne : e ≠ e') : ∀ k, v.ownBlock = some k → v'.ownBlock ≠ some k := by
  intro k hk hk'
  rcases h.2 with ⟨hv, hn⟩ | ⟨g, cap, cur, hv, hb, hg, _⟩
  · rw [hv] at hk; cases hk
  · have : g = k := by rw [hv] at hk; cases hk; rfl
    subst this
    exact h'.ne (show Blk w g e cur from hg) hne hk'
theorem frs_len {l : List Msg} (hl : ∀ x ∈ l, FOk x) : (l.flatMap Fr).length ≤ 4114 * l.length := by
  induction l with
  | nil => simp
  | cons x l ih =>
    have h1 := (fr_len (hl x (by simp))).2
    have h2 := ih fun y hy => hl y (by simp [hy])
    simp only [List.flatMap_cons, List.length_append, List.length_cons]
    omega
theorem frs_bs {l : List Msg} (hl : ∀ x ∈ l, FOk x) : Bs (l.flatMap Fr) := fun z hz => by
  obtain ⟨x, hx, hz⟩ := List.mem_flatMap.1 hz
  exact fr_bs (hl x hx) z hz
theorem kind_range' {U : Nat → Prop} {w : World} {x : Msg} {cs : List Value} (h : kMsg.rep U w x cs) : 0 ≤ x.kind ∧ x.kind ≤ 255 := wf_u8' (lnKind.get h).2
/-- A new reader, that nothing was brought to. -/
theorem rdr_nil {w w' : World} {rb g : Nat} (h : ∀ lo, Rdr w rb g lo [] 0) (k : Keep w w') (lo : Nat) : Rdr w' rb g lo [] 0 := by
  obtain ⟨v, hb, ho, _, hS, hn, hl⟩ := (h lo).fx k (fun h => h) (fun h => h) (fun _ _ _ h => h)
  exact ⟨v, hb, ho, fun x hx => by simp at hx, hS, hn, hl⟩
set_option maxHeartbeats 3200000 in
theorem finds_walk {w : World} {B : Option Addr} {l : List Msg} {d : Nat} {p : Int} (hl2 : l.length ≤ d) (hc2 : d ≤ maxLen) (he2 : Elems kMsg (fun k => k < w.heap.size) w B l) (hp : 0 ≤ p ∧ p ≤ 255) :
    callK Try.prog 3 #[.slice B l.length d, .int .u8 p] w fun v w' => v = .bool true ∧ Keep w w' := by
  refine callK_of Try.func3 c3 r3 (by exact Nat.le_of_ble_eq_true rfl) ?_
  rw [m3]
  obtain ⟨p, rfl⟩ := Int.eq_ofNat_of_zero_le hp.1
  simp -implicitDefEqProofs only [go_sem, ↓reduceIte, reduceEqDiff, Int.reduceLT, Nat.reduceLT, reduceToNat, reducePow, reduceAdd, reduceEq, reduceLeDiff, reduceLE]
  refine (falive_calls w).mono ?_
  rintro v w1 ⟨rfl, k1⟩
  have s1 := k1.size
  simp -implicitDefEqProofs only [go_sem, ↓reduceIte, reduceEqDiff, Int.reduceLT, Nat.reduceLT, reduceToNat, reducePow, reduceAdd, reduceEq, reduceLeDiff, reduceLE]
  refine (rnew_calls w1).mono ?_
  rintro v w2 ⟨rfl, hR2, k2, s2⟩
  have kk2 := k1.tr k2
  obtain ⟨rb, hrb⟩ : ∃ rb, rb = w1.heap.size + 1 := ⟨_, rfl⟩
  obtain ⟨g, hg⟩ : ∃ g, g = w1.heap.size := ⟨_, rfl⟩
  rw [← hrb, ← hg] at hR2
  rw [← hrb]
  obtain ⟨S, hS⟩ : ∃ S, S = w2.heap.size := ⟨_, rfl⟩
  simp -implicitDefEqProofs only [go_sem, ↓reduceIte, reduceEqDiff, Int.reduceLT, Nat.reduceLT, reduceToNat, reducePow, reduceAdd, reduceEq, reduceLeDiff, reduceLE]
  refine loop_intro (fun q f w' => ∃ (i : Nat) (kept : List Msg) (v6 v7 : Value), q = l.length - i ∧ i ≤ l.length ∧ f 0 = .slice B l.length d ∧ f 1 = .int .u8 p ∧ f 5 = .pointer (some (At rb 0)) ∧ f 6 = v6 ∧ f 7 = v7 ∧ f 8 = .int .i64 i ∧
      OwnI 5 .u8 S w' v7 (kept.flatMap Fr) ∧ OwnR kMsg 42 (fun k => k < w.heap.size) S w' v6 kept ∧ (∀ x ∈ kept, FOk x) ∧ kept.length ≤ i ∧ kept.length ≤ 10 ∧ Keep w2 w') l.length
    ⟨0, [], .slice none 0 0, .slice none 0 0, rfl, Nat.zero_le _, by simp -implicitDefEqProofs only [go_sem, ↓reduceIte, reduceEqDiff, Int.reduceLT, Nat.reduceLT, reduceToNat, reducePow, reduceAdd, reduceEq, reduceLeDiff, reduceLE], by simp -implicitDefEqProofs only [go_sem, ↓reduceIte, reduceEqDiff, Int.reduceLT, Nat.reduceLT, reduceToNat, reducePow, reduceAdd, reduceEq, reduceLeDiff, reduceLE], by simp -implicitDefEqProofs only [go_sem, ↓reduceIte, reduceEqDiff, Int.reduceLT, Nat.reduceLT, reduceToNat, reducePow, reduceAdd, reduceEq, reduceLeDiff, reduceLE], by simp -implicitDefEqProofs only [go_sem, ↓reduceIte, reduceEqDiff, Int.reduceLT, Nat.reduceLT, reduceToNat, reducePow, reduceAdd, reduceEq, reduceLeDiff, reduceLE] <;> rfl, by simp -implicitDefEqProofs only [go_sem, ↓reduceIte, reduceEqDiff, Int.reduceLT, Nat.reduceLT, reduceToNat, reducePow, reduceAdd, reduceEq, reduceLeDiff, reduceLE] <;> rfl, by simp -implicitDefEqProofs only [go_sem, ↓reduceIte, reduceEqDiff, Int.reduceLT, Nat.reduceLT, reduceToNat, reducePow, reduceAdd, reduceEq, reduceLeDiff, reduceLE] <;> rfl, OwnI.nil _ _ _ _, OwnR.nil _ _ _ _ _, fun x hx => by simp at hx, Nat.le_refl _, by decide, Fx.refl _ _⟩ ?_
  rintro q f w3 ⟨i, kept, v6, v7, rfl, hi, g0, g1, g5, g6, g7, g8, hO7, hO6, hok, hki, hkl, K3⟩
  have s3 := K3.size
  simp only [maxLen] at hc2
  by_cases h1 : i < l.length
  case neg =>
    have i1 : ¬ (i : Int) < (l.length : Int) := by omega
    simp -implicitDefEqProofs only [go_sem, ↓reduceIte, reduceEqDiff, Int.reduceLT, Nat.reduceLT, reduceToNat, reducePow, reduceAdd, reduceEq, reduceLeDiff, reduceLE, g0, g1, g5, g6, g7, g8, i1]
    obtain ⟨A7, c7, rfl, hc7, hr7⟩ := hO7.slice
    obtain ⟨A6, c6, e6, hc6, hm6, hel⟩ := OwnR.rep (K := kMsg) (Nat.succ_pos 27) hO6 (U' := fun k => k < w.heap.size ∨ S ≤ k) (fun k h => .inl h) (fun k h => .inr h)
    injection e6 with e6 _
    subst e6
    have hab := frs_bs hok
    have hal := frs_len hok
    obtain ⟨all, hall⟩ : ∃ a, a = kept.flatMap Fr := ⟨_, rfl⟩
    rw [← hall] at hr7 hc7 hab hal g7 hO7
    have lt7 : ∀ ad, A7 = some ad → all ≠ [] → ad.block ≠ rb ∧ ad.block ≠ g := fun ad e hne => by
      have : S ≤ ad.block := (hO7.lt (k := ad.block) (by rw [e]; rfl)).1
      omega
    refine loop_intro (fun q f w' => ∃ (at' n : Nat) (b : List Int), q = all.length - at' ∧ f 1 = .int .u8 p ∧ f 5 = .pointer (some (At rb 0)) ∧ f 6 = .slice A6 kept.length c6 ∧ f 7 = .slice A7 all.length c7 ∧ f 11 = .int .i64 n ∧ f 12 = .int .i64 at' ∧ at' ≤ all.length + 256 ∧ n ≤ kept.length ∧ Rdr w' rb g w3.heap.size b 0 ∧ nextF b = moreF b ∧ b ++ all.drop at' = (kept.drop n).flatMap Fr ∧ Fx (fun k => k = rb ∨ k = g) w3 w') all.length
      ⟨0, 0, [], rfl, by simp -implicitDefEqProofs only [go_sem, ↓reduceIte, reduceEqDiff, Int.reduceLT, Nat.reduceLT, reduceToNat, reducePow, reduceAdd, reduceEq, reduceLeDiff, reduceLE, g1], by simp -implicitDefEqProofs only [go_sem, ↓reduceIte, reduceEqDiff, Int.reduceLT, Nat.reduceLT, reduceToNat, reducePow, reduceAdd, reduceEq, reduceLeDiff, reduceLE, g5], by simp -implicitDefEqProofs only [go_sem, ↓reduceIte, reduceEqDiff, Int.reduceLT, Nat.reduceLT, reduceToNat, reducePow, reduceAdd, reduceEq, reduceLeDiff, reduceLE, g6], by simp -implicitDefEqProofs only [go_sem, ↓reduceIte, reduceEqDiff, Int.reduceLT, Nat.reduceLT, reduceToNat, reducePow, reduceAdd, reduceEq, reduceLeDiff, reduceLE, g7], by simp -implicitDefEqProofs only [go_sem, ↓reduceIte, reduceEqDiff, Int.reduceLT, Nat.reduceLT, reduceToNat, reducePow, reduceAdd, reduceEq, reduceLeDiff, reduceLE] <;> rfl, by simp -implicitDefEqProofs only [go_sem, ↓reduceIte, reduceEqDiff, Int.reduceLT, Nat.reduceLT, reduceToNat, reducePow, reduceAdd, reduceEq, reduceLeDiff, reduceLE] <;> rfl, by omega, by omega, rdr_nil hR2 K3 _, rfl, by simpa using hall, Fx.refl _ _⟩ ?_
    rintro q f w4 ⟨at', n, b, rfl, g1, g5, g6, g7, g11, g12, hat, hn, hR4, hst, heq, F4⟩
    have hokn : ∀ x ∈ kept.drop n, FOk x := fun x hx => hok x (List.mem_of_mem_drop hx)
    have s4 := F4.size
    by_cases h1 : at' < all.length
    case neg =>
      have i1 : ¬ (at' : Int) < (all.length : Int) := by omega
      have hdn : all.drop at' = [] := List.drop_of_length_le (by omega)
      rw [hdn] at heq
      obtain ⟨hb, hkn⟩ : b = [] ∧ kept.drop n = [] := by
        rcases find_step hokn heq with ⟨x, l', b', _, _, hx, _⟩ | ⟨_, h⟩
        · rw [hst] at hx
          have := congrArg (fun z => z.2.1) hx
          exact absurd this (show ¬ (40 : Int) = 0 by decide)
        · exact h rfl
      subst hb
      have hnk : n = kept.length := by
        have := congrArg List.length hkn
        rw [List.length_drop] at this
        simp at this
        omega
      subst hnk
      have z1 : ((kept.length : Int) == (kept.length : Int)) = true := beq_self_eq_true _
      simp -implicitDefEqProofs only [go_sem, ↓reduceIte, reduceEqDiff, Int.reduceLT, Nat.reduceLT, reduceToNat, reducePow, reduceAdd, reduceEq, reduceLeDiff, reduceLE, g1, g5, g6, g7, g11, g12, i1, z1]
      refine (waits_calls hR4).mono ?_
      rintro v _ ⟨rfl, rfl⟩
      have z2 : ((([] : List Int).length : Int) == 0) = true := rfl
      simp -implicitDefEqProofs only [go_sem, ↓reduceIte, reduceEqDiff, Int.reduceLT, Nat.reduceLT, reduceToNat, reducePow, reduceAdd, reduceEq, reduceLeDiff, reduceLE, z2]
      exact ⟨by first | trivial | rfl, (kk2.tr K3).new F4 (fun k e hk => by rcases e with e | e <;> omega)⟩
    have i1 : (at' : Int) < (all.length : Int) := by omega
    have i0 : (0 : Int) ≤ (at' : Int) := by omega
    have e1 : IntKind.i64.wrap ((at' : Int) + 1) = ((at' + 1 : Nat) : Int) := i64_nat (by omega) (by omega)
    have e2 : IntKind.i64.wrap (p : Int) = (p : Int) := i64_nat (by omega) (by omega)
    have e3 : IntKind.i64.wrap (((at' + 1 : Nat) : Int) + (p : Int)) = ((at' + 1 + p : Nat) : Int) := i64_nat (by omega) (by omega)
    obtain ⟨h, hh, hh1, hh2, hh3⟩ : ∃ h : Nat, (if ((at' + 1 + p : Nat) : Int) < (all.length : Int) then ((at' + 1 + p : Nat) : Int) else (all.length : Int)) = (h : Int) ∧ at' ≤ h ∧ h ≤ all.length ∧ all.drop (at' + 1 + p) = all.drop h := by
      by_cases hm : ((at' + 1 + p : Nat) : Int) < (all.length : Int)
      · exact ⟨at' + 1 + p, by rw [if_pos hm], by omega, by omega, rfl⟩
      · exact ⟨all.length, by rw [if_neg hm], by omega, by omega, by rw [List.drop_of_length_le (by omega), List.drop_of_length_le (Nat.le_refl _)]⟩
    have j1 : (at' : Int) ≤ (h : Int) := by omega
    have j2 : (h : Int) ≤ (c7 : Int) := by omega
    simp -implicitDefEqProofs only [go_sem, ↓reduceIte, reduceEqDiff, Int.reduceLT, Nat.reduceLT, reduceToNat, reducePow, reduceAdd, reduceEq, reduceLeDiff, reduceLE, g1, g5, g6, g7, g11, g12, i1, e1, e2, e3, hh, i0, j1, j2]
    have hdl : ((all.drop at').take (h - at')).length = h - at' := by rw [List.length_take, List.length_drop]; omega
    have hdd : (all.drop at').take (h - at') ++ all.drop h = all.drop at' := by
      have : all.drop h = (all.drop at').drop (h - at') := by rw [List.drop_drop]; congr 1; omega
      rw [this, List.take_append_drop]
    have hne7 : all ≠ [] := by rintro rfl; simp at h1
    have hr4 := hr7.fx F4 (fun ad e hk => by have := lt7 ad e hne7; omega)
    have hbl : b.length ≤ 41140 := by
      have h1 := congrArg List.length heq
      have h2 := frs_len hokn
      rw [List.length_append] at h1
      rw [List.length_drop] at h2
      have := hkl
      omega
    rw [← hdl]
    refine (feed_calls hR4 (by omega) ((hr4.cut at' c7 hc7).take (h - at')) ((hab.drop at').take _) (by rw [hdl]; omega)).mono ?_
    rintro v w5 ⟨rfl, hR5, f5⟩
    rw [if_pos rfl] at hR5
    have ob4 : ∀ k, OwnB w4 rb k → w3.heap.size ≤ k := fun k e => (ownB_of hR4 (Fx.refl (fun _ => False) _) (fun h => h) e).1
    have F5 : Fx (fun k => k = rb ∨ k = g) w3 w5 := F4.new f5 (fun k e hk => by rcases e with e | e <;> first | exact .inl e | (have := ob4 k e; omega))
    have heq5 : (b ++ (all.drop at').take (h - at')) ++ all.drop h = (kept.drop n).flatMap Fr := by rw [List.append_assoc, hdd]; exact heq
    have hb5 : (b ++ (all.drop at').take (h - at')).length ≤ 82280 := by rw [List.length_append, hdl]; omega
    have hokn := hok
    generalize b ++ (all.drop at').take (h - at') = b at *
    simp -implicitDefEqProofs only [go_sem, ↓reduceIte, reduceEqDiff, Int.reduceLT, Nat.reduceLT, reduceToNat, reducePow, reduceAdd, reduceEq, reduceLeDiff, reduceLE, g1, g5, g6, g7, g11, g12]
    refine loop_intro (fun q f w' => ∃ (n : Nat) (b : List Int), q = b.length ∧ f 1 = .int .u8 p ∧ f 5 = .pointer (some (At rb 0)) ∧ f 6 = .slice A6 kept.length c6 ∧ f 7 = .slice A7 all.length c7 ∧ f 11 = .int .i64 n ∧ f 12 = .int .i64 at' ∧ n ≤ kept.length ∧ b.length ≤ 82280 ∧ Rdr w' rb g w3.heap.size b 0 ∧ b ++ all.drop h = (kept.drop n).flatMap Fr ∧ Fx (fun k => k = rb ∨ k = g) w3 w') b.length
      ⟨n, b, rfl, by simp -implicitDefEqProofs only [go_sem, ↓reduceIte, reduceEqDiff, Int.reduceLT, Nat.reduceLT, reduceToNat, reducePow, reduceAdd, reduceEq, reduceLeDiff, reduceLE, g1], by simp -implicitDefEqProofs only [go_sem, ↓reduceIte, reduceEqDiff, Int.reduceLT, Nat.reduceLT, reduceToNat, reducePow, reduceAdd, reduceEq, reduceLeDiff, reduceLE, g5], by simp -implicitDefEqProofs only [go_sem, ↓reduceIte, reduceEqDiff, Int.reduceLT, Nat.reduceLT, reduceToNat, reducePow, reduceAdd, reduceEq, reduceLeDiff, reduceLE, g6], by simp -implicitDefEqProofs only [go_sem, ↓reduceIte, reduceEqDiff, Int.reduceLT, Nat.reduceLT, reduceToNat, reducePow, reduceAdd, reduceEq, reduceLeDiff, reduceLE, g7], by simp -implicitDefEqProofs only [go_sem, ↓reduceIte, reduceEqDiff, Int.reduceLT, Nat.reduceLT, reduceToNat, reducePow, reduceAdd, reduceEq, reduceLeDiff, reduceLE, g11], by simp -implicitDefEqProofs only [go_sem, ↓reduceIte, reduceEqDiff, Int.reduceLT, Nat.reduceLT, reduceToNat, reducePow, reduceAdd, reduceEq, reduceLeDiff, reduceLE, g12], hn, hb5, hR5, heq5, F5⟩ ?_
    clear hR5 hR4 hbl hb5 heq5 heq hst hn f5 F5 ob4 g1 g5 g6 g7 g11 g12
    rintro q f w6 ⟨n, b, rfl, g1, g5, g6, g7, g11, g12, hn, hb6, hR6, heq, F6⟩
    have s6 := F6.size
    have hokn : ∀ x ∈ kept.drop n, FOk x := fun x hx => hok x (List.mem_of_mem_drop hx)
    simp -implicitDefEqProofs only [go_sem, ↓reduceIte, reduceEqDiff, Int.reduceLT, Nat.reduceLT, reduceToNat, reducePow, reduceAdd, reduceEq, reduceLeDiff, reduceLE, g1, g5, g6, g7, g11, g12]
    refine (next_calls hR6 (by omega) (by omega)).mono ?_
    have ea : stepF b 0 = nextF b := by unfold stepF; rw [if_pos rfl]
    rw [ea]
    rcases find_step hokn heq with ⟨x, l', b', hl', hbb, hx, heq'⟩ | ⟨hx, _⟩
    · rw [hx]
      rintro v w7 ⟨cs7, rfl, hm7, hR7, f7⟩
      have F7 : Fx (fun k => k = rb ∨ k = g) w3 w7 := F6.new f7 (fun k e _ => e)
      obtain ⟨w8, S8, hM8, k8, s8⟩ := store_msg hm7
      have F8 := F7.keep k8
      have hR8 := hR7.fx k8 (fun h => h) (fun h => h) (fun _ _ _ h => h)
      have hnk : n < kept.length := by
        have := congrArg List.length hl'
        rw [List.length_drop] at this
        simp at this
        omega
      have hkx : kept[n]? = some x := by
        have := congrArg (·[0]?) hl'
        simpa using this
      have hln : l' = kept.drop (n + 1) := by
        have := congrArg List.tail hl'
        rw [List.tail_drop] at this
        exact this.symm
      subst hln
      obtain ⟨ad, rfl, hU, vs, hrep, hcl⟩ := hel n x hkx
      have hcl' : CellsAt w3 (ad.add (n * 28)) vs := hcl
      have hUn : ad.block ≠ rb ∧ ad.block ≠ g := by rcases hU with h | h <;> omega
      have hS : ∀ wz, Keep w8 wz → ldV Try.prog wz 42 (.pointer (some (ad.add (n * 28)))) = some (.agg vs.toArray) := fun wz kz => ldV_agg sh42 (kMsg.len hrep) (hcl'.ext fun hlt => (F8.keep kz).block _ hlt (fun e => by rw [add_block] at e; omega))
      obtain ⟨csx, hBx, hrx⟩ := id hM8
      have hX : ∀ wz, Keep w8 wz → ldV Try.prog wz 42 (.pointer (some (At w7.heap.size 0))) = some (.agg csx.toArray) := fun wz kz => by
        have hc : CellsAt w8 ⟨w7.heap.size, 0, none⟩ csx := hBx.cells
        exact ldV_agg sh42 (kMsg.len hrx) (hc.ext fun hlt => kz.block _ hlt (fun h => h))
      have z0 : ((0 : Int) == 40) = false := rfl
      have z1 : ((0 : Int) != 0) = false := rfl
      have i1 : ¬ (kept.length : Int) ≤ (n : Int) := by omega
      have i2 : (n : Int) < (kept.length : Int) := by omega
      have i0 : (0 : Int) ≤ (n : Int) := by omega
      simp -implicitDefEqProofs only [go_sem, ↓reduceIte, reduceEqDiff, Int.reduceLT, Nat.reduceLT, reduceToNat, reducePow, reduceAdd, reduceEq, reduceLeDiff, reduceLE, g1, g5, g6, g7, g11, g12, S8, z0, z1, i1, i2, i0]
      refine seg_intro (fun w' => Keep w8 w') (Fx.drew _ _) ?_
      simp -implicitDefEqProofs only [go_sem, ↓reduceIte, reduceEqDiff, Int.reduceLT, Nat.reduceLT, reduceToNat, reducePow, reduceAdd, reduceEq, reduceLeDiff, reduceLE, g1, g5, g6, g7, g11, g12, i1, i2, i0]
      refine hld_intro (.agg csx.toArray) (Fx.drew _ _) (fun w' hw' => by have := hX w' hw'; simp -implicitDefEqProofs only [go_sem, ↓reduceIte, reduceEqDiff, Int.reduceLT, Nat.reduceLT, reduceToNat, reducePow, reduceAdd, reduceEq, reduceLeDiff, reduceLE, this]; exact ⟨trivial, trivial⟩) ?_
      have hd3 := hS w8.drew (Fx.drew _ _)
      simp -implicitDefEqProofs only [go_sem, ↓reduceIte, reduceEqDiff, Int.reduceLT, Nat.reduceLT, reduceToNat, reducePow, reduceAdd, reduceEq, reduceLeDiff, reduceLE, g1, g5, g6, g7, g11, g12, i1, i2, i0, hd3]
      refine goE_intro (Fx.drew _ _) ?_
      have kd : Keep w8 w8.drew := Fx.drew _ _
      simp -implicitDefEqProofs only [go_sem, ↓reduceIte, reduceEqDiff, Int.reduceLT, Nat.reduceLT, reduceToNat, reducePow, reduceAdd, reduceEq, reduceLeDiff, reduceLE]
      refine (same_calls (kMsg.keep hrx kd) (kMsg.fx hrep (F8.keep kd) (fun k hk e => by rcases hk with h | h <;> rcases e with e | e <;> omega))).mono ?_
      rintro v w9 ⟨⟨q, rfl, hq⟩, k9⟩
      obtain rfl : q = true := hq.2 rfl
      have k89 := kd.tr k9
      have hR9 := hR8.fx k89 (fun h => h) (fun h => h) (fun _ _ _ h => h)
      have en : IntKind.i64.wrap ((n : Int) + 1) = ((n + 1 : Nat) : Int) := i64_nat (by omega) (by omega)
      have hp := (fr_len (hokn x (by rw [hl']; simp))).1
      simp -implicitDefEqProofs only [go_sem, ↓reduceIte, reduceEqDiff, Int.reduceLT, Nat.reduceLT, reduceToNat, reducePow, reduceAdd, reduceEq, reduceLeDiff, reduceLE, g1, g5, g6, g7, g11, g12, en]
      exact ⟨b'.length, by omega, n + 1, b', rfl, by simp -implicitDefEqProofs only [go_sem, ↓reduceIte, reduceEqDiff, Int.reduceLT, Nat.reduceLT, reduceToNat, reducePow, reduceAdd, reduceEq, reduceLeDiff, reduceLE, g1], by simp -implicitDefEqProofs only [go_sem, ↓reduceIte, reduceEqDiff, Int.reduceLT, Nat.reduceLT, reduceToNat, reducePow, reduceAdd, reduceEq, reduceLeDiff, reduceLE, g5], by simp -implicitDefEqProofs only [go_sem, ↓reduceIte, reduceEqDiff, Int.reduceLT, Nat.reduceLT, reduceToNat, reducePow, reduceAdd, reduceEq, reduceLeDiff, reduceLE, g6], by simp -implicitDefEqProofs only [go_sem, ↓reduceIte, reduceEqDiff, Int.reduceLT, Nat.reduceLT, reduceToNat, reducePow, reduceAdd, reduceEq, reduceLeDiff, reduceLE, g7], by simp -implicitDefEqProofs only [go_sem, ↓reduceIte, reduceEqDiff, Int.reduceLT, Nat.reduceLT, reduceToNat, reducePow, reduceAdd, reduceEq, reduceLeDiff, reduceLE], by simp -implicitDefEqProofs only [go_sem, ↓reduceIte, reduceEqDiff, Int.reduceLT, Nat.reduceLT, reduceToNat, reducePow, reduceAdd, reduceEq, reduceLeDiff, reduceLE, g12], by omega, by omega, hR9, heq', F8.keep k89⟩
    · have hx' : nextF b = (zMsg 0, 40, b, 0) := hx
      rw [hx']
      rintro v w7 ⟨cs7, rfl, hm7, hR7, f7⟩
      have F7 : Fx (fun k => k = rb ∨ k = g) w3 w7 := F6.new f7 (fun k e _ => e)
      obtain ⟨w8, S8, hM8, k8, s8⟩ := store_msg hm7
      have F8 := F7.keep k8
      have hR8 := hR7.fx k8 (fun h => h) (fun h => h) (fun _ _ _ h => h)
      have z0 : ((40 : Int) == 40) = true := rfl
      simp -implicitDefEqProofs only [go_sem, ↓reduceIte, reduceEqDiff, Int.reduceLT, Nat.reduceLT, reduceToNat, reducePow, reduceAdd, reduceEq, reduceLeDiff, reduceLE, g1, g5, g6, g7, g11, g12, S8, z0, e1, e2, e3]
      exact ⟨all.length - (at' + 1 + p), by omega, at' + 1 + p, n, b, rfl, by simp -implicitDefEqProofs only [go_sem, ↓reduceIte, reduceEqDiff, Int.reduceLT, Nat.reduceLT, reduceToNat, reducePow, reduceAdd, reduceEq, reduceLeDiff, reduceLE, g1], by simp -implicitDefEqProofs only [go_sem, ↓reduceIte, reduceEqDiff, Int.reduceLT, Nat.reduceLT, reduceToNat, reducePow, reduceAdd, reduceEq, reduceLeDiff, reduceLE, g5], by simp -implicitDefEqProofs only [go_sem, ↓reduceIte, reduceEqDiff, Int.reduceLT, Nat.reduceLT, reduceToNat, reducePow, reduceAdd, reduceEq, reduceLeDiff, reduceLE, g6], by simp -implicitDefEqProofs only [go_sem, ↓reduceIte, reduceEqDiff, Int.reduceLT, Nat.reduceLT, reduceToNat, reducePow, reduceAdd, reduceEq, reduceLeDiff, reduceLE, g7], by simp -implicitDefEqProofs only [go_sem, ↓reduceIte, reduceEqDiff, Int.reduceLT, Nat.reduceLT, reduceToNat, reducePow, reduceAdd, reduceEq, reduceLeDiff, reduceLE, g11], by simp -implicitDefEqProofs only [go_sem, ↓reduceIte, reduceEqDiff, Int.reduceLT, Nat.reduceLT, reduceToNat, reducePow, reduceAdd, reduceEq, reduceLeDiff, reduceLE], by omega, hn, hR8, hx, by rw [hh3]; exact heq, F8⟩
  have i1 : (i : Int) < (l.length : Int) := by omega
  by_cases h10 : i < 10
  case neg =>
    have i5 : ¬ (i : Int) < 10 := by omega
    simp -implicitDefEqProofs only [go_sem, ↓reduceIte, reduceEqDiff, Int.reduceLT, Nat.reduceLT, reduceToNat, reducePow, reduceAdd, reduceEq, reduceLeDiff, reduceLE, g0, g1, g5, g6, g7, g8, i1, i5]
    obtain ⟨A7, c7, rfl, hc7, hr7⟩ := hO7.slice
    obtain ⟨A6, c6, e6, hc6, hm6, hel⟩ := OwnR.rep (K := kMsg) (Nat.succ_pos 27) hO6 (U' := fun k => k < w.heap.size ∨ S ≤ k) (fun k h => .inl h) (fun k h => .inr h)
    injection e6 with e6 _
    subst e6
    have hab := frs_bs hok
    have hal := frs_len hok
    obtain ⟨all, hall⟩ : ∃ a, a = kept.flatMap Fr := ⟨_, rfl⟩
    rw [← hall] at hr7 hc7 hab hal g7 hO7
    have lt7 : ∀ ad, A7 = some ad → all ≠ [] → ad.block ≠ rb ∧ ad.block ≠ g := fun ad e hne => by
      have : S ≤ ad.block := (hO7.lt (k := ad.block) (by rw [e]; rfl)).1
      omega
    refine loop_intro (fun q f w' => ∃ (at' n : Nat) (b : List Int), q = all.length - at' ∧ f 1 = .int .u8 p ∧ f 5 = .pointer (some (At rb 0)) ∧ f 6 = .slice A6 kept.length c6 ∧ f 7 = .slice A7 all.length c7 ∧ f 11 = .int .i64 n ∧ f 12 = .int .i64 at' ∧ at' ≤ all.length + 256 ∧ n ≤ kept.length ∧ Rdr w' rb g w3.heap.size b 0 ∧ nextF b = moreF b ∧ b ++ all.drop at' = (kept.drop n).flatMap Fr ∧ Fx (fun k => k = rb ∨ k = g) w3 w') all.length
      ⟨0, 0, [], rfl, by simp -implicitDefEqProofs only [go_sem, ↓reduceIte, reduceEqDiff, Int.reduceLT, Nat.reduceLT, reduceToNat, reducePow, reduceAdd, reduceEq, reduceLeDiff, reduceLE, g1], by simp -implicitDefEqProofs only [go_sem, ↓reduceIte, reduceEqDiff, Int.reduceLT, Nat.reduceLT, reduceToNat, reducePow, reduceAdd, reduceEq, reduceLeDiff, reduceLE, g5], by simp -implicitDefEqProofs only [go_sem, ↓reduceIte, reduceEqDiff, Int.reduceLT, Nat.reduceLT, reduceToNat, reducePow, reduceAdd, reduceEq, reduceLeDiff, reduceLE, g6], by simp -implicitDefEqProofs only [go_sem, ↓reduceIte, reduceEqDiff, Int.reduceLT, Nat.reduceLT, reduceToNat, reducePow, reduceAdd, reduceEq, reduceLeDiff, reduceLE, g7], by simp -implicitDefEqProofs only [go_sem, ↓reduceIte, reduceEqDiff, Int.reduceLT, Nat.reduceLT, reduceToNat, reducePow, reduceAdd, reduceEq, reduceLeDiff, reduceLE] <;> rfl, by simp -implicitDefEqProofs only [go_sem, ↓reduceIte, reduceEqDiff, Int.reduceLT, Nat.reduceLT, reduceToNat, reducePow, reduceAdd, reduceEq, reduceLeDiff, reduceLE] <;> rfl, by omega, by omega, rdr_nil hR2 K3 _, rfl, by simpa using hall, Fx.refl _ _⟩ ?_
    rintro q f w4 ⟨at', n, b, rfl, g1, g5, g6, g7, g11, g12, hat, hn, hR4, hst, heq, F4⟩
    have hokn : ∀ x ∈ kept.drop n, FOk x := fun x hx => hok x (List.mem_of_mem_drop hx)
    have s4 := F4.size
    by_cases h1 : at' < all.length
    case neg =>
      have i1 : ¬ (at' : Int) < (all.length : Int) := by omega
      have hdn : all.drop at' = [] := List.drop_of_length_le (by omega)
      rw [hdn] at heq
      obtain ⟨hb, hkn⟩ : b = [] ∧ kept.drop n = [] := by
        rcases find_step hokn heq with ⟨x, l', b', _, _, hx, _⟩ | ⟨_, h⟩
        · rw [hst] at hx
          have := congrArg (fun z => z.2.1) hx
          exact absurd this (show ¬ (40 : Int) = 0 by decide)
        · exact h rfl
      subst hb
      have hnk : n = kept.length := by
        have := congrArg List.length hkn
        rw [List.length_drop] at this
        simp at this
        omega
      subst hnk
      have z1 : ((kept.length : Int) == (kept.length : Int)) = true := beq_self_eq_true _
      simp -implicitDefEqProofs only [go_sem, ↓reduceIte, reduceEqDiff, Int.reduceLT, Nat.reduceLT, reduceToNat, reducePow, reduceAdd, reduceEq, reduceLeDiff, reduceLE, g1, g5, g6, g7, g11, g12, i1, z1]
      refine (waits_calls hR4).mono ?_
      rintro v _ ⟨rfl, rfl⟩
      have z2 : ((([] : List Int).length : Int) == 0) = true := rfl
      simp -implicitDefEqProofs only [go_sem, ↓reduceIte, reduceEqDiff, Int.reduceLT, Nat.reduceLT, reduceToNat, reducePow, reduceAdd, reduceEq, reduceLeDiff, reduceLE, z2]
      exact ⟨by first | trivial | rfl, (kk2.tr K3).new F4 (fun k e hk => by rcases e with e | e <;> omega)⟩
    have i1 : (at' : Int) < (all.length : Int) := by omega
    have i0 : (0 : Int) ≤ (at' : Int) := by omega
    have e1 : IntKind.i64.wrap ((at' : Int) + 1) = ((at' + 1 : Nat) : Int) := i64_nat (by omega) (by omega)
    have e2 : IntKind.i64.wrap (p : Int) = (p : Int) := i64_nat (by omega) (by omega)
    have e3 : IntKind.i64.wrap (((at' + 1 : Nat) : Int) + (p : Int)) = ((at' + 1 + p : Nat) : Int) := i64_nat (by omega) (by omega)
    obtain ⟨h, hh, hh1, hh2, hh3⟩ : ∃ h : Nat, (if ((at' + 1 + p : Nat) : Int) < (all.length : Int) then ((at' + 1 + p : Nat) : Int) else (all.length : Int)) = (h : Int) ∧ at' ≤ h ∧ h ≤ all.length ∧ all.drop (at' + 1 + p) = all.drop h := by
      by_cases hm : ((at' + 1 + p : Nat) : Int) < (all.length : Int)
      · exact ⟨at' + 1 + p, by rw [if_pos hm], by omega, by omega, rfl⟩
      · exact ⟨all.length, by rw [if_neg hm], by omega, by omega, by rw [List.drop_of_length_le (by omega), List.drop_of_length_le (Nat.le_refl _)]⟩
    have j1 : (at' : Int) ≤ (h : Int) := by omega
    have j2 : (h : Int) ≤ (c7 : Int) := by omega
    simp -implicitDefEqProofs only [go_sem, ↓reduceIte, reduceEqDiff, Int.reduceLT, Nat.reduceLT, reduceToNat, reducePow, reduceAdd, reduceEq, reduceLeDiff, reduceLE, g1, g5, g6, g7, g11, g12, i1, e1, e2, e3, hh, i0, j1, j2]
    have hdl : ((all.drop at').take (h - at')).length = h - at' := by rw [List.length_take, List.length_drop]; omega
    have hdd : (all.drop at').take (h - at') ++ all.drop h = all.drop at' := by
      have : all.drop h = (all.drop at').drop (h - at') := by rw [List.drop_drop]; congr 1; omega
      rw [this, List.take_append_drop]
    have hne7 : all ≠ [] := by rintro rfl; simp at h1
    have hr4 := hr7.fx F4 (fun ad e hk => by have := lt7 ad e hne7; omega)
    have hbl : b.length ≤ 41140 := by
      have h1 := congrArg List.length heq
      have h2 := frs_len hokn
      rw [List.length_append] at h1
      rw [List.length_drop] at h2
      have := hkl
      omega
    rw [← hdl]
    refine (feed_calls hR4 (by omega) ((hr4.cut at' c7 hc7).take (h - at')) ((hab.drop at').take _) (by rw [hdl]; omega)).mono ?_
    rintro v w5 ⟨rfl, hR5, f5⟩
    rw [if_pos rfl] at hR5
    have ob4 : ∀ k, OwnB w4 rb k → w3.heap.size ≤ k := fun k e => (ownB_of hR4 (Fx.refl (fun _ => False) _) (fun h => h) e).1
    have F5 : Fx (fun k => k = rb ∨ k = g) w3 w5 := F4.new f5 (fun k e hk => by rcases e with e | e <;> first | exact .inl e | (have := ob4 k e; omega))
    have heq5 : (b ++ (all.drop at').take (h - at')) ++ all.drop h = (kept.drop n).flatMap Fr := by rw [List.append_assoc, hdd]; exact heq
    have hb5 : (b ++ (all.drop at').take (h - at')).length ≤ 82280 := by rw [List.length_append, hdl]; omega
    have hokn := hok
    generalize b ++ (all.drop at').take (h - at') = b at *
    simp -implicitDefEqProofs only [go_sem, ↓reduceIte, reduceEqDiff, Int.reduceLT, Nat.reduceLT, reduceToNat, reducePow, reduceAdd, reduceEq, reduceLeDiff, reduceLE, g1, g5, g6, g7, g11, g12]
    refine loop_intro (fun q f w' => ∃ (n : Nat) (b : List Int), q = b.length ∧ f 1 = .int .u8 p ∧ f 5 = .pointer (some (At rb 0)) ∧ f 6 = .slice A6 kept.length c6 ∧ f 7 = .slice A7 all.length c7 ∧ f 11 = .int .i64 n ∧ f 12 = .int .i64 at' ∧ n ≤ kept.length ∧ b.length ≤ 82280 ∧ Rdr w' rb g w3.heap.size b 0 ∧ b ++ all.drop h = (kept.drop n).flatMap Fr ∧ Fx (fun k => k = rb ∨ k = g) w3 w') b.length
      ⟨n, b, rfl, by simp -implicitDefEqProofs only [go_sem, ↓reduceIte, reduceEqDiff, Int.reduceLT, Nat.reduceLT, reduceToNat, reducePow, reduceAdd, reduceEq, reduceLeDiff, reduceLE, g1], by simp -implicitDefEqProofs only [go_sem, ↓reduceIte, reduceEqDiff, Int.reduceLT, Nat.reduceLT, reduceToNat, reducePow, reduceAdd, reduceEq, reduceLeDiff, reduceLE, g5], by simp -implicitDefEqProofs only [go_sem, ↓reduceIte, reduceEqDiff, Int.reduceLT, Nat.reduceLT, reduceToNat, reducePow, reduceAdd, reduceEq, reduceLeDiff, reduceLE, g6], by simp -implicitDefEqProofs only [go_sem, ↓reduceIte, reduceEqDiff, Int.reduceLT, Nat.reduceLT, reduceToNat, reducePow, reduceAdd, reduceEq, reduceLeDiff, reduceLE, g7], by simp -implicitDefEqProofs only [go_sem, ↓reduceIte, reduceEqDiff, Int.reduceLT, Nat.reduceLT, reduceToNat, reducePow, reduceAdd, reduceEq, reduceLeDiff, reduceLE, g11], by simp -implicitDefEqProofs only [go_sem, ↓reduceIte, reduceEqDiff, Int.reduceLT, Nat.reduceLT, reduceToNat, reducePow, reduceAdd, reduceEq, reduceLeDiff, reduceLE, g12], hn, hb5, hR5, heq5, F5⟩ ?_
    clear hR5 hR4 hbl hb5 heq5 heq hst hn f5 F5 ob4 g1 g5 g6 g7 g11 g12
    rintro q f w6 ⟨n, b, rfl, g1, g5, g6, g7, g11, g12, hn, hb6, hR6, heq, F6⟩
    have s6 := F6.size
    have hokn : ∀ x ∈ kept.drop n, FOk x := fun x hx => hok x (List.mem_of_mem_drop hx)
    simp -implicitDefEqProofs only [go_sem, ↓reduceIte, reduceEqDiff, Int.reduceLT, Nat.reduceLT, reduceToNat, reducePow, reduceAdd, reduceEq, reduceLeDiff, reduceLE, g1, g5, g6, g7, g11, g12]
    refine (next_calls hR6 (by omega) (by omega)).mono ?_
    have ea : stepF b 0 = nextF b := by unfold stepF; rw [if_pos rfl]
    rw [ea]
    rcases find_step hokn heq with ⟨x, l', b', hl', hbb, hx, heq'⟩ | ⟨hx, _⟩
    · rw [hx]
      rintro v w7 ⟨cs7, rfl, hm7, hR7, f7⟩
      have F7 : Fx (fun k => k = rb ∨ k = g) w3 w7 := F6.new f7 (fun k e _ => e)
      obtain ⟨w8, S8, hM8, k8, s8⟩ := store_msg hm7
      have F8 := F7.keep k8
      have hR8 := hR7.fx k8 (fun h => h) (fun h => h) (fun _ _ _ h => h)
      have hnk : n < kept.length := by
        have := congrArg List.length hl'
        rw [List.length_drop] at this
        simp at this
        omega
      have hkx : kept[n]? = some x := by
        have := congrArg (·[0]?) hl'
        simpa using this
      have hln : l' = kept.drop (n + 1) := by
        have := congrArg List.tail hl'
        rw [List.tail_drop] at this
        exact this.symm
      subst hln
      obtain ⟨ad, rfl, hU, vs, hrep, hcl⟩ := hel n x hkx
      have hcl' : CellsAt w3 (ad.add (n * 28)) vs := hcl
      have hUn : ad.block ≠ rb ∧ ad.block ≠ g := by rcases hU with h | h <;> omega
      have hS : ∀ wz, Keep w8 wz → ldV Try.prog wz 42 (.pointer (some (ad.add (n * 28)))) = some (.agg vs.toArray) := fun wz kz => ldV_agg sh42 (kMsg.len hrep) (hcl'.ext fun hlt => (F8.keep kz).block _ hlt (fun e => by rw [add_block] at e; omega))
      obtain ⟨csx, hBx, hrx⟩ := id hM8
      have hX : ∀ wz, Keep w8 wz → ldV Try.prog wz 42 (.pointer (some (At w7.heap.size 0))) = some (.agg csx.toArray) := fun wz kz => by
        have hc : CellsAt w8 ⟨w7.heap.size, 0, none⟩ csx := hBx.cells
        exact ldV_agg sh42 (kMsg.len hrx) (hc.ext fun hlt => kz.block _ hlt (fun h => h))
      have z0 : ((0 : Int) == 40) = false := rfl
      have z1 : ((0 : Int) != 0) = false := rfl
      have i1 : ¬ (kept.length : Int) ≤ (n : Int) := by omega
      have i2 : (n : Int) < (kept.length : Int) := by omega
      have i0 : (0 : Int) ≤ (n : Int) := by omega
      simp -implicitDefEqProofs only [go_sem, ↓reduceIte, reduceEqDiff, Int.reduceLT, Nat.reduceLT, reduceToNat, reducePow, reduceAdd, reduceEq, reduceLeDiff, reduceLE, g1, g5, g6, g7, g11, g12, S8, z0, z1, i1, i2, i0]
      refine seg_intro (fun w' => Keep w8 w') (Fx.drew _ _) ?_
      simp -implicitDefEqProofs only [go_sem, ↓reduceIte, reduceEqDiff, Int.reduceLT, Nat.reduceLT, reduceToNat, reducePow, reduceAdd, reduceEq, reduceLeDiff, reduceLE, g1, g5, g6, g7, g11, g12, i1, i2, i0]
      refine hld_intro (.agg csx.toArray) (Fx.drew _ _) (fun w' hw' => by have := hX w' hw'; simp -implicitDefEqProofs only [go_sem, ↓reduceIte, reduceEqDiff, Int.reduceLT, Nat.reduceLT, reduceToNat, reducePow, reduceAdd, reduceEq, reduceLeDiff, reduceLE, this]; exact ⟨trivial, trivial⟩) ?_
      have hd3 := hS w8.drew (Fx.drew _ _)
      simp -implicitDefEqProofs only [go_sem, ↓reduceIte, reduceEqDiff, Int.reduceLT, Nat.reduceLT, reduceToNat, reducePow, reduceAdd, reduceEq, reduceLeDiff, reduceLE, g1, g5, g6, g7, g11, g12, i1, i2, i0, hd3]
      refine goE_intro (Fx.drew _ _) ?_
      have kd : Keep w8 w8.drew := Fx.drew _ _
      simp -implicitDefEqProofs only [go_sem, ↓reduceIte, reduceEqDiff, Int.reduceLT, Nat.reduceLT, reduceToNat, reducePow, reduceAdd, reduceEq, reduceLeDiff, reduceLE]
      refine (same_calls (kMsg.keep hrx kd) (kMsg.fx hrep (F8.keep kd) (fun k hk e => by rcases hk with h | h <;> rcases e with e | e <;> omega))).mono ?_
      rintro v w9 ⟨⟨q, rfl, hq⟩, k9⟩
      obtain rfl : q = true := hq.2 rfl
      have k89 := kd.tr k9
      have hR9 := hR8.fx k89 (fun h => h) (fun h => h) (fun _ _ _ h => h)
      have en : IntKind.i64.wrap ((n : Int) + 1) = ((n + 1 : Nat) : Int) := i64_nat (by omega) (by omega)
      have hp := (fr_len (hokn x (by rw [hl']; simp))).1
      simp -implicitDefEqProofs only [go_sem, ↓reduceIte, reduceEqDiff, Int.reduceLT, Nat.reduceLT, reduceToNat, reducePow, reduceAdd, reduceEq, reduceLeDiff, reduceLE, g1, g5, g6, g7, g11, g12, en]
      exact ⟨b'.length, by omega, n + 1, b', rfl, by simp -implicitDefEqProofs only [go_sem, ↓reduceIte, reduceEqDiff, Int.reduceLT, Nat.reduceLT, reduceToNat, reducePow, reduceAdd, reduceEq, reduceLeDiff, reduceLE, g1], by simp -implicitDefEqProofs only [go_sem, ↓reduceIte, reduceEqDiff, Int.reduceLT, Nat.reduceLT, reduceToNat, reducePow, reduceAdd, reduceEq, reduceLeDiff, reduceLE, g5], by simp -implicitDefEqProofs only [go_sem, ↓reduceIte, reduceEqDiff, Int.reduceLT, Nat.reduceLT, reduceToNat, reducePow, reduceAdd, reduceEq, reduceLeDiff, reduceLE, g6], by simp -implicitDefEqProofs only [go_sem, ↓reduceIte, reduceEqDiff, Int.reduceLT, Nat.reduceLT, reduceToNat, reducePow, reduceAdd, reduceEq, reduceLeDiff, reduceLE, g7], by simp -implicitDefEqProofs only [go_sem, ↓reduceIte, reduceEqDiff, Int.reduceLT, Nat.reduceLT, reduceToNat, reducePow, reduceAdd, reduceEq, reduceLeDiff, reduceLE], by simp -implicitDefEqProofs only [go_sem, ↓reduceIte, reduceEqDiff, Int.reduceLT, Nat.reduceLT, reduceToNat, reducePow, reduceAdd, reduceEq, reduceLeDiff, reduceLE, g12], by omega, by omega, hR9, heq', F8.keep k89⟩
    · have hx' : nextF b = (zMsg 0, 40, b, 0) := hx
      rw [hx']
      rintro v w7 ⟨cs7, rfl, hm7, hR7, f7⟩
      have F7 : Fx (fun k => k = rb ∨ k = g) w3 w7 := F6.new f7 (fun k e _ => e)
      obtain ⟨w8, S8, hM8, k8, s8⟩ := store_msg hm7
      have F8 := F7.keep k8
      have hR8 := hR7.fx k8 (fun h => h) (fun h => h) (fun _ _ _ h => h)
      have z0 : ((40 : Int) == 40) = true := rfl
      simp -implicitDefEqProofs only [go_sem, ↓reduceIte, reduceEqDiff, Int.reduceLT, Nat.reduceLT, reduceToNat, reducePow, reduceAdd, reduceEq, reduceLeDiff, reduceLE, g1, g5, g6, g7, g11, g12, S8, z0, e1, e2, e3]
      exact ⟨all.length - (at' + 1 + p), by omega, at' + 1 + p, n, b, rfl, by simp -implicitDefEqProofs only [go_sem, ↓reduceIte, reduceEqDiff, Int.reduceLT, Nat.reduceLT, reduceToNat, reducePow, reduceAdd, reduceEq, reduceLeDiff, reduceLE, g1], by simp -implicitDefEqProofs only [go_sem, ↓reduceIte, reduceEqDiff, Int.reduceLT, Nat.reduceLT, reduceToNat, reducePow, reduceAdd, reduceEq, reduceLeDiff, reduceLE, g5], by simp -implicitDefEqProofs only [go_sem, ↓reduceIte, reduceEqDiff, Int.reduceLT, Nat.reduceLT, reduceToNat, reducePow, reduceAdd, reduceEq, reduceLeDiff, reduceLE, g6], by simp -implicitDefEqProofs only [go_sem, ↓reduceIte, reduceEqDiff, Int.reduceLT, Nat.reduceLT, reduceToNat, reducePow, reduceAdd, reduceEq, reduceLeDiff, reduceLE, g7], by simp -implicitDefEqProofs only [go_sem, ↓reduceIte, reduceEqDiff, Int.reduceLT, Nat.reduceLT, reduceToNat, reducePow, reduceAdd, reduceEq, reduceLeDiff, reduceLE, g11], by simp -implicitDefEqProofs only [go_sem, ↓reduceIte, reduceEqDiff, Int.reduceLT, Nat.reduceLT, reduceToNat, reducePow, reduceAdd, reduceEq, reduceLeDiff, reduceLE], by omega, hn, hR8, hx, by rw [hh3]; exact heq, F8⟩
  have i5 : (i : Int) < 10 := by omega
  have i0 : (0 : Int) ≤ (i : Int) := by omega
  have Kw3 := kk2.tr K3
  obtain ⟨ad, rfl, hU, vs, hrep, hcl⟩ := he2 i _ (List.getElem?_eq_getElem h1)
  have hcl' : CellsAt w (ad.add (i * 28)) vs := hcl
  have lden : ∀ {wz : World}, Keep w wz → ldV Try.prog wz 42 (.pointer (some (ad.add (i * 28)))) = some (.agg vs.toArray) := fun kz => ldV_agg sh42 (kMsg.len hrep) (hcl'.ext fun hlt => kz.block _ hlt (fun h => h))
  have repn : ∀ {wz : World}, Keep w wz → kMsg.rep (fun k => k < wz.heap.size) wz l[i] vs := fun kz => kMsg.mono (kMsg.keep hrep kz) fun k hk _ => hk
  have en : IntKind.i64.wrap ((i : Int) + 1) = ((i + 1 : Nat) : Int) := i64_nat (by omega) (by omega)
  have ld3 := lden Kw3
  simp -implicitDefEqProofs only [go_sem, ↓reduceIte, reduceEqDiff, Int.reduceLT, Nat.reduceLT, reduceToNat, reducePow, reduceAdd, reduceEq, reduceLeDiff, reduceLE, g0, g1, g5, g6, g7, g8, i1, i5, i0, ld3]
  refine (greatMsg_calls (repn Kw3)).mono ?_
  rintro v w4 ⟨⟨q, rfl⟩, k4⟩
  have K4 := K3.tr k4
  have Kw4 := kk2.tr K4
  cases q with
  | true =>
    simp -implicitDefEqProofs only [go_sem, ↓reduceIte, reduceEqDiff, Int.reduceLT, Nat.reduceLT, reduceToNat, reducePow, reduceAdd, reduceEq, reduceLeDiff, reduceLE]
    exact ⟨trivial, Kw4⟩
  | false =>
  have ld4 := lden Kw4
  simp -implicitDefEqProofs only [go_sem, ↓reduceIte, reduceEqDiff, Int.reduceLT, Nat.reduceLT, reduceToNat, reducePow, reduceAdd, reduceEq, reduceLeDiff, reduceLE, g0, g1, g5, g6, g7, g8, i1, i0, ld4]
  have hRm := rmsg_of (repn Kw4)
  have hbm : PutOk l[i] → Bs (putMsg l[i]).2.b := fun h => put_bs hRm h
  have hkr := kind_range' (repn Kw4)
  refine (encode_calls (repn Kw4) hbm).mono ?_
  rintro v w5 ⟨hv, k5⟩
  have K5 := K4.tr k5
  have Kw5 := kk2.tr K5
  have s5 := K5.size
  have hO7 := (hO7.fx k4 (fun _ _ h => h)).fx k5 (fun _ _ h => h)
  have hO6 := (hO6.keep k4).keep k5
  have z62 : ((62 : Int) == 0) = false := rfl
  have z72 : ((72 : Int) == 0) = false := rfl
  have z00 : ((0 : Int) == 0) = true := rfl
  rcases hv with ⟨_, rfl⟩ | ⟨_, _, rfl⟩ | ⟨hpo, hle, v1, rfl, ho⟩
  · simp -implicitDefEqProofs only [go_sem, ↓reduceIte, reduceEqDiff, Int.reduceLT, Nat.reduceLT, reduceToNat, reducePow, reduceAdd, reduceEq, reduceLeDiff, reduceLE, g0, g1, g5, g6, g7, g8, z62, en]
    exact ⟨l.length - (i + 1), by omega, i + 1, kept, v6, v7, rfl, by omega, by simp -implicitDefEqProofs only [go_sem, ↓reduceIte, reduceEqDiff, Int.reduceLT, Nat.reduceLT, reduceToNat, reducePow, reduceAdd, reduceEq, reduceLeDiff, reduceLE, g0], by simp -implicitDefEqProofs only [go_sem, ↓reduceIte, reduceEqDiff, Int.reduceLT, Nat.reduceLT, reduceToNat, reducePow, reduceAdd, reduceEq, reduceLeDiff, reduceLE, g1], by simp -implicitDefEqProofs only [go_sem, ↓reduceIte, reduceEqDiff, Int.reduceLT, Nat.reduceLT, reduceToNat, reducePow, reduceAdd, reduceEq, reduceLeDiff, reduceLE, g5], by simp -implicitDefEqProofs only [go_sem, ↓reduceIte, reduceEqDiff, Int.reduceLT, Nat.reduceLT, reduceToNat, reducePow, reduceAdd, reduceEq, reduceLeDiff, reduceLE, g6], by simp -implicitDefEqProofs only [go_sem, ↓reduceIte, reduceEqDiff, Int.reduceLT, Nat.reduceLT, reduceToNat, reducePow, reduceAdd, reduceEq, reduceLeDiff, reduceLE, g7], by simp -implicitDefEqProofs only [go_sem, ↓reduceIte, reduceEqDiff, Int.reduceLT, Nat.reduceLT, reduceToNat, reducePow, reduceAdd, reduceEq, reduceLeDiff, reduceLE], hO7, hO6, hok, by omega, hkl, K5⟩
  · simp -implicitDefEqProofs only [go_sem, ↓reduceIte, reduceEqDiff, Int.reduceLT, Nat.reduceLT, reduceToNat, reducePow, reduceAdd, reduceEq, reduceLeDiff, reduceLE, g0, g1, g5, g6, g7, g8, z72, en]
    exact ⟨l.length - (i + 1), by omega, i + 1, kept, v6, v7, rfl, by omega, by simp -implicitDefEqProofs only [go_sem, ↓reduceIte, reduceEqDiff, Int.reduceLT, Nat.reduceLT, reduceToNat, reducePow, reduceAdd, reduceEq, reduceLeDiff, reduceLE, g0], by simp -implicitDefEqProofs only [go_sem, ↓reduceIte, reduceEqDiff, Int.reduceLT, Nat.reduceLT, reduceToNat, reducePow, reduceAdd, reduceEq, reduceLeDiff, reduceLE, g1], by simp -implicitDefEqProofs only [go_sem, ↓reduceIte, reduceEqDiff, Int.reduceLT, Nat.reduceLT, reduceToNat, reducePow, reduceAdd, reduceEq, reduceLeDiff, reduceLE, g5], by simp -implicitDefEqProofs only [go_sem, ↓reduceIte, reduceEqDiff, Int.reduceLT, Nat.reduceLT, reduceToNat, reducePow, reduceAdd, reduceEq, reduceLeDiff, reduceLE, g6], by simp -implicitDefEqProofs only [go_sem, ↓reduceIte, reduceEqDiff, Int.reduceLT, Nat.reduceLT, reduceToNat, reducePow, reduceAdd, reduceEq, reduceLeDiff, reduceLE, g7], by simp -implicitDefEqProofs only [go_sem, ↓reduceIte, reduceEqDiff, Int.reduceLT, Nat.reduceLT, reduceToNat, reducePow, reduceAdd, reduceEq, reduceLeDiff, reduceLE], hO7, hO6, hok, by omega, hkl, K5⟩
  have hF : FOk l[i] := ⟨hRm, hpo, by omega, hbm hpo⟩
  have hfl := (fr_len hF).2
  have hal := frs_len hok
  have ho : OwnI 5 .u8 w4.heap.size w5 v1 (Fr l[i]) := ho
  obtain ⟨A1, c1, rfl, hc1, hr1⟩ := ho.slice
  simp -implicitDefEqProofs only [go_sem, ↓reduceIte, reduceEqDiff, Int.reduceLT, Nat.reduceLT, reduceToNat, reducePow, reduceAdd, reduceEq, reduceLeDiff, reduceLE, g0, g1, g5, g6, g7, g8, z00]
  refine append_own ie8 (by decide) hO7 hr1 (by omega) (by omega) ?_
  intro v7' w6 o7 f6 hat7
  have K6 : Keep w2 w6 := K5.new f6 (fun k e hk => by have := (hO7.lt e).1; omega)
  have Kw6 := kk2.tr K6
  have s6 := K6.size
  have hO6 := hO6.fx f6 (fun k hk _ e => by have := (hO7.lt e).1; have := kk2.size; omega) (fun k hk e => own_apart hO7 hO6 (by decide) k e.symm hk)
  have ld6 := lden Kw6
  simp -implicitDefEqProofs only [go_sem, ↓reduceIte, reduceEqDiff, Int.reduceLT, Nat.reduceLT, reduceToNat, reducePow, reduceAdd, reduceEq, reduceLeDiff, reduceLE, g0, g1, g5, g6, g8, i1, i0, ld6]
  have hvs : (Value.agg vs.toArray).cells.size = 28 := by show vs.toArray.size = 28; rw [List.size_toArray]; exact kMsg.len hrep
  refine bsl_val et22 (by decide) (by decide) hvs ?_
  have kA : Keep w6 (w6.alloc (.cells (Value.agg vs.toArray).cells 42)) := Fx.alloc _ w6 _
  have hbn := (Blk.new w6 42 (Value.agg vs.toArray).cells).cells
  have hO6 := hO6.keep kA
  have o7 := o7.fx kA (fun _ _ h => h)
  have K7 := K6.tr kA
  have Kw7 := kk2.tr K7
  have s7 := K7.size
  have sA := size_alloc w6 (.cells (Value.agg vs.toArray).cells 42)
  generalize w6.alloc (.cells (Value.agg vs.toArray).cells 42) = w7 at *
  simp -implicitDefEqProofs only [go_sem, ↓reduceIte, reduceEqDiff, Int.reduceLT, Nat.reduceLT, reduceToNat, reducePow, reduceAdd, reduceEq, reduceLeDiff, reduceLE]
  refine append_ownR (K := kMsg) (x := l[i]) (cs := vs) et22 rfl (by decide) hO6 (kMsg.mono (kMsg.keep hrep Kw7) fun k _ hk => ⟨hk, fun e => by have := (hO6.lt e).1; have := kk2.size; omega⟩) hbn (by omega) (by simp only [maxLen]; omega) (by omega) ?_
  intro v8 w8 hO8 f8
  have K8 : Keep w2 w8 := K7.new f8 (fun k e hk => by have := (hO6.lt e).1; omega)
  have o8 := o7.fx f8 (fun k hk e => own_apart o7 hO6 (by decide) k hk.symm e)
  have eall : (kept ++ [l[i]]).flatMap Fr = kept.flatMap Fr ++ Fr l[i] := by simp
  rw [← eall] at o8
  simp -implicitDefEqProofs only [go_sem, ↓reduceIte, reduceEqDiff, Int.reduceLT, Nat.reduceLT, reduceToNat, reducePow, reduceAdd, reduceEq, reduceLeDiff, reduceLE, g0, g1, g5, g8, en]
  exact ⟨l.length - (i + 1), by omega, i + 1, kept ++ [l[i]], v8, v7', rfl, by omega, by simp -implicitDefEqProofs only [go_sem, ↓reduceIte, reduceEqDiff, Int.reduceLT, Nat.reduceLT, reduceToNat, reducePow, reduceAdd, reduceEq, reduceLeDiff, reduceLE, g0], by simp -implicitDefEqProofs only [go_sem, ↓reduceIte, reduceEqDiff, Int.reduceLT, Nat.reduceLT, reduceToNat, reducePow, reduceAdd, reduceEq, reduceLeDiff, reduceLE, g1], by simp -implicitDefEqProofs only [go_sem, ↓reduceIte, reduceEqDiff, Int.reduceLT, Nat.reduceLT, reduceToNat, reducePow, reduceAdd, reduceEq, reduceLeDiff, reduceLE, g5], by simp -implicitDefEqProofs only [go_sem, ↓reduceIte, reduceEqDiff, Int.reduceLT, Nat.reduceLT, reduceToNat, reducePow, reduceAdd, reduceEq, reduceLeDiff, reduceLE], by simp -implicitDefEqProofs only [go_sem, ↓reduceIte, reduceEqDiff, Int.reduceLT, Nat.reduceLT, reduceToNat, reducePow, reduceAdd, reduceEq, reduceLeDiff, reduceLE], by simp -implicitDefEqProofs only [go_sem, ↓reduceIte, reduceEqDiff, Int.reduceLT, Nat.reduceLT, reduceToNat, reducePow, reduceAdd, reduceEq, reduceLeDiff, reduceLE], o8, hO8, fun x hx => by
    rcases List.mem_append.1 hx with h | h
    · exact hok x h
    · rw [List.mem_singleton] at h; rw [h]; exact hF, by simp; omega, by simp; omega, K8⟩
end Go.Proofs.Ytnlibeaainbipaa.F
