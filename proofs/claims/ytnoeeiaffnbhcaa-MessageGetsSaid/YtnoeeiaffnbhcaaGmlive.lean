/- The document's examples of messages. Conditions: none. -/
import Derived.Test.YtnoeeiaffnbhcaaGget
import Derived.Test.YtnoeeiaffnbhcaaGcells
namespace Go.Proofs.Ytnoeeiaffnbhcaa.M
open Go.RowKit Go.Proofs.Ytnoeeiaffnbhcaa.V
variable {P : Program}
theorem putC_all {cs : Array Value} {vs : List Value} (h : cs.size = vs.length) : putC cs 0 vs = vs.toArray := by
  unfold putC
  apply Array.ext'
  simp [List.drop_of_length_le, h]
end Go.Proofs.Ytnoeeiaffnbhcaa.M
namespace Go.Proofs.Ytnoeeiaffnbhcaa.F
open Go.RowKit Go.Proofs.Ytnoeeiaffnbhcaa.M Go.Proofs.Ytnoeeiaffnbhcaa.V
set_option linter.unusedSimpArgs false
set_option linter.unusedVariables false
set_option maxRecDepth 20000
/-- A message is laid into a new box. -/
theorem store_msg {U : Nat → Prop} {w : World} {x : Msg} {cs : List Value} (hr : kMsg.rep U w x cs) : ∃ w2, stV Try.prog (w.alloc (.cells #[.int .u8 0, .int .u32 0, .int .u32 0, .int .u64 0, .int .u8 0, .int .u32 0, .string ⟨#[]⟩, .string ⟨#[]⟩, .int .u8 0, .int .u8 0, .bool false, .int .u8 0, .int .u16 0, .slice none 0 0, .int .u32 0, .slice none 0 0, .int .u16 0, .int .u16 0, .slice none 0 0, .slice none 0 0, .slice none 0 0, .int .u32 0, .int .u32 0, .slice none 0 0, .int .u64 0, .slice none 0 0, .slice none 0 0, .slice none 0 0] 37)) 37 (.pointer (some (At w.heap.size 0))) (.agg cs.toArray) = some w2 ∧
    MsgAt 37 (fun k => U k ∧ k < w.heap.size) w2 w.heap.size x ∧ Keep w w2 ∧ w2.heap.size = w.heap.size + 1 := by
  have hcl : cs.length = 28 := kMsg.len hr
  have hb : Blk _ _ _ _ := Blk.new w 37 #[.int .u8 0, .int .u32 0, .int .u32 0, .int .u64 0, .int .u8 0, .int .u32 0, .string ⟨#[]⟩, .string ⟨#[]⟩, .int .u8 0, .int .u8 0, .bool false, .int .u8 0, .int .u16 0, .slice none 0 0, .int .u32 0, .slice none 0 0, .int .u16 0, .int .u16 0, .slice none 0 0, .slice none 0 0, .slice none 0 0, .int .u32 0, .int .u32 0, .slice none 0 0, .int .u64 0, .slice none 0 0, .slice none 0 0, .slice none 0 0]
  have S0 := stB (P := Try.prog) (o := 0) sz37 hb (by decide) cs hcl (allOne_of (kMsg.one hr))
  have hb2 := hb.put 0 cs
  rw [putC_all (by rw [hcl]; rfl)] at hb2
  have k2 : Keep w (putW (w.alloc (.cells #[.int .u8 0, .int .u32 0, .int .u32 0, .int .u64 0, .int .u8 0, .int .u32 0, .string ⟨#[]⟩, .string ⟨#[]⟩, .int .u8 0, .int .u8 0, .bool false, .int .u8 0, .int .u16 0, .slice none 0 0, .int .u32 0, .slice none 0 0, .int .u16 0, .int .u16 0, .slice none 0 0, .slice none 0 0, .slice none 0 0, .int .u32 0, .int .u32 0, .slice none 0 0, .int .u64 0, .slice none 0 0, .slice none 0 0, .slice none 0 0] 37)) w.heap.size 0 cs) := (Fx.alloc (fun _ => False) w _).new (Fx.put (m := only w.heap.size) _ _ _ _ rfl) (fun k e hk => by have : k = w.heap.size := e; omega)
  exact ⟨_, S0, ⟨cs, hb2, kMsg.keep (kMsg.lt hr) k2⟩, k2, by rw [size_put]; exact size_alloc _ _⟩
theorem msg_load {U : Nat → Prop} {w : World} {g : Nat} {x : Msg} (h : MsgAt 37 U w g x) : ∃ cs, ldV Try.prog w 37 (.pointer (some (At g 0))) = some (.agg (List.toArray cs)) ∧ kMsg.rep U w x cs := by
  obtain ⟨cs, hb, hr⟩ := h
  have hcl : cs.length = 28 := kMsg.len hr
  have hci := cells_in hb 0 28
  rw [List.drop_zero, List.take_of_length_le (by omega)] at hci
  exact ⟨cs, ldV_agg sh37 hcl hci, hr⟩
def ping : Msg := { zMsg 7 with n := 300 }
theorem ping_rep {U : Nat → Prop} {w : World} : kMsg.rep U w ping [.int .u8 7, .int .u32 0, .int .u32 0, .int .u64 0, .int .u8 0, .int .u32 300, .string ⟨#[]⟩, .string ⟨#[]⟩, .int .u8 0, .int .u8 0, .bool false, .int .u8 0, .int .u16 0, .slice none 0 0, .int .u32 0, .slice none 0 0, .int .u16 0, .int .u16 0, .slice none 0 0, .slice none 0 0, .slice none 0 0, .int .u32 0, .int .u32 0, .slice none 0 0, .int .u64 0, .slice none 0 0, .slice none 0 0, .slice none 0 0] := lnN.put (y := (300 : Int)) (vs := [.int .u32 300]) (zMsg_rep (k := 7) (by decide) (by decide)) ⟨rfl, rfl⟩
theorem ping_put : putMsg ping = (zMsg 7, ⟨[172, 2], false⟩) := by kernel_rfl
theorem ping_ok : PutOk ping := by unfold PutOk; rw [ping_put]; exact ⟨rfl, rfl⟩
theorem ping_get : getMsg 7 [172, 2] = (ping, 0) := by kernel_rfl
theorem ping_more : (getMsg 7 [172, 2, 0]).2 = 60 := by kernel_rfl
theorem kind_get : (getMsg 25 []).2 = 61 := by kernel_rfl
theorem elems_own {b : Nat} {w : World} {A : Option Addr} {c : Nat} {xs : List Int} (ho : OwnI 5 .u8 b w (.slice A xs.length c) xs) (hb : Bs xs) : c ≤ maxLen ∧ Elems (Kind.int .u8) (fun k => b ≤ k ∧ k < w.heap.size) w A xs := by
  have hr : RdI w .u8 A xs := by
    obtain ⟨A', c', e, _, hr⟩ := ho.slice
    have := (Value.slice.inj e).1
    rw [this]; exact hr
  refine ⟨?_, elems_of hr (fun ad e hne => ?_) (fun x hx => u8_wf (hb x hx).1 (hb x hx).2)⟩
  · rcases ho.2 with ⟨hv, _⟩ | ⟨g', cap, cur, hv, _, _, hcc, hmm, _⟩
    · have := (Value.slice.inj hv).2.2; omega
    · have := (Value.slice.inj hv).2.2; omega
  · subst e
    rcases ho.2 with ⟨hv, _⟩ | ⟨g', cap, cur, hv, h1, h2, _⟩
    · have := (Value.slice.inj hv).1; cases this
    · have := (Value.slice.inj hv).1
      cases this
      exact ⟨h1, (Array.getElem?_eq_some_iff.1 h2).1⟩
theorem bs172 : Bs [172, 2] := fun x hx => by simp at hx; omega
theorem alive_calls (w : World) : callK Try.prog 10 #[] w fun v w' => v = .bool true ∧ Keep w w' := by
  refine callK_of Try.func10 c10 r10 (by exact Nat.le_of_ble_eq_true rfl) ?_
  rw [m10]
  simp -implicitDefEqProofs only [go_sem, ↓reduceIte, Nat.reduceEqDiff, Int.reduceLT, Nat.reduceLT, Int.reduceToNat, Int.reducePow, Nat.reduceAdd, Int.reduceEq, Nat.reduceLeDiff, Int.reduceLE]
  refine (put_msg_calls (ping_rep (w := w))).mono ?_
  rintro v w1 ⟨hv, k1⟩
  rcases hv with ⟨hn, _⟩ | ⟨_, v1, rfl, ho⟩
  · exact absurd ping_ok hn
  rw [ping_put] at ho
  have ho : OwnI 5 .u8 w.heap.size w1 v1 [172, 2] := ho
  obtain ⟨A, c, rfl, hc, hr⟩ := ho.slice
  obtain ⟨hcm, he⟩ := elems_own ho bs172
  simp -implicitDefEqProofs only [go_sem, ↓reduceIte, Nat.reduceEqDiff, Int.reduceLT, Nat.reduceLT, Int.reduceToNat, Int.reducePow, Nat.reduceAdd, Int.reduceEq, Nat.reduceLeDiff, Int.reduceLE]
  refine (get_msg_calls (kind := 7) (b := [172, 2]) (by decide) (by decide) hc hcm (he.mono Nat.zero_lt_one fun k hk _ => hk)).mono ?_
  rw [ping_get]
  rintro v w2 ⟨cs2, rfl, hr2, k2⟩
  obtain ⟨w3, S3, hM3, k3, s3⟩ := store_msg hr2
  have s2 := k2.size
  simp -implicitDefEqProofs only [go_sem, ↓reduceIte, Nat.reduceEqDiff, Int.reduceLT, Nat.reduceLT, Int.reduceToNat, Int.reducePow, Nat.reduceAdd, Int.reduceEq, Nat.reduceLeDiff, Int.reduceLE, S3]
  generalize hb3 : w2.heap.size = b3 at *
  refine bsl_three ie8 ?_
  have kC : Keep w3 (w3.alloc (.cells #[.int .u8 172, .int .u8 2, .int .u8 0] 5)) := Fx.alloc _ _ _
  have heC : Elems (Kind.int .u8) (fun k => k < (w3.alloc (.cells #[.int .u8 172, .int .u8 2, .int .u8 0] 5)).heap.size) (w3.alloc (.cells #[.int .u8 172, .int .u8 2, .int .u8 0] 5)) (some (At w3.heap.size 0)) [172, 2, 0] :=
    elems_of (RdI.new w3 5 .u8 [172, 2, 0]) (fun ad e _ => by cases e; rw [size_alloc]; exact Nat.lt_succ_self _) (fun x hx => by simp at hx; rcases hx with rfl | rfl | rfl <;> rfl)
  have hM4 := hM3.keep kC
  generalize w3.alloc (.cells #[.int .u8 172, .int .u8 2, .int .u8 0] 5) = w4 at *
  simp -implicitDefEqProofs only [go_sem, ↓reduceIte, Nat.reduceEqDiff, Int.reduceLT, Nat.reduceLT, Int.reduceToNat, Int.reducePow, Nat.reduceAdd, Int.reduceEq, Nat.reduceLeDiff, Int.reduceLE]
  refine (get_msg_calls (kind := 7) (b := [172, 2, 0]) (by decide) (by decide) (Nat.le_refl 3) (by decide) heC).mono ?_
  rw [ping_more]
  rintro v w5 ⟨cs5, rfl, hr5, k5⟩
  obtain ⟨w6, S6, hM6, k6, s6⟩ := store_msg hr5
  simp -implicitDefEqProofs only [go_sem, ↓reduceIte, Nat.reduceEqDiff, Int.reduceLT, Nat.reduceLT, Int.reduceToNat, Int.reducePow, Nat.reduceAdd, Int.reduceEq, Nat.reduceLeDiff, Int.reduceLE, S6]
  have hM7 := (hM4.keep k5).keep k6
  refine (get_msg_calls (kind := 25) (A := none) (c := 0) (b := []) (by decide) (by decide) (Nat.le_refl 0) (Nat.zero_le _) (Elems.nil _ _ _ _)).mono ?_
  rw [kind_get]
  rintro v w8 ⟨cs8, rfl, hr8, k8⟩
  obtain ⟨w9, S9, hM9, k9, s9⟩ := store_msg hr8
  simp -implicitDefEqProofs only [go_sem, ↓reduceIte, Nat.reduceEqDiff, Int.reduceLT, Nat.reduceLT, Int.reduceToNat, Int.reducePow, Nat.reduceAdd, Int.reduceEq, Nat.reduceLeDiff, Int.reduceLE, S9]
  have kk : Keep w1 w9 := ((((k2.tr k3).tr kC).tr (k5.tr k6)).tr k8).tr k9
  have hrz := hr.fx kk (fun _ _ x => x)
  refine cv_bytes bs8 hrz ?_
  have hMz := (hM7.keep k8).keep k9
  obtain ⟨v, hc, hfz, hv, _⟩ := hMz.cell lnN rfl
  simp only [List.cons.injEq, and_true] at hv
  subst hv
  have z1 : ((strOfNums [172, 2]).toList == (⟨#[172, 2]⟩ : ByteArray).toList) = true := by kernel_rfl
  have z2 : ((0 : Int) == 0) = true := rfl
  have z3 : (ping.n == 300) = true := rfl
  have z4 : ((60 : Int) == 60) = true := rfl
  have z5 : ((61 : Int) == 61) = true := rfl
  simp -implicitDefEqProofs only [go_sem, ↓reduceIte, Nat.reduceEqDiff, Int.reduceLT, Nat.reduceLT, Int.reduceToNat, Int.reducePow, Nat.reduceAdd, Int.reduceEq, Nat.reduceLeDiff, Int.reduceLE, z1, z2, z3, z4, z5, hc]
  exact ⟨trivial, k1.tr kk⟩
end Go.Proofs.Ytnoeeiaffnbhcaa.F
