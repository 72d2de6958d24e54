/- The law's example of a message. Conditions: none. -/
import Derived.Test.YtnoeeiaffnbhcaaGmload
namespace Go.Proofs.Ytnoeeiaffnbhcaa.F
open Go.RowKit Go.Proofs.Ytnoeeiaffnbhcaa.M Go.Proofs.Ytnoeeiaffnbhcaa.V
set_option linter.unusedSimpArgs false
set_option linter.unusedVariables false
set_option maxRecDepth 20000
theorem alive_calls (w : World) : callK Try.prog 10 #[] w fun v w' => v = .bool true ∧ Keep w w' := by
  refine callK_of Try.func10 c10 r10 (by exact Nat.le_of_ble_eq_true rfl) ?_
  rw [m10]
  simp -implicitDefEqProofs only [go_sem, ↓reduceIte, Nat.reduceEqDiff, Int.reduceLT, Nat.reduceLT, Int.reduceToNat, Int.reducePow, Nat.reduceAdd, Int.reduceEq, Nat.reduceLeDiff, Int.reduceLE]
  refine (put_msg_calls (ping_rep (w := w))).mono ?_
  rintro v w1 ⟨hv, k1⟩
  rcases hv with ⟨hn, _⟩ | ⟨_, v1, rfl, ho⟩
  · exact absurd ping_ok hn
  rw [ping_put] at ho
  have ho : OwnI 5 .u8 w.heap.size w1 v1 [172, 2] := ho
  obtain ⟨A, c, rfl, hc, hr⟩ := ho.slice
  obtain ⟨hcm, he⟩ := elems_own ho bs172
  simp -implicitDefEqProofs only [go_sem, ↓reduceIte, Nat.reduceEqDiff, Int.reduceLT, Nat.reduceLT, Int.reduceToNat, Int.reducePow, Nat.reduceAdd, Int.reduceEq, Nat.reduceLeDiff, Int.reduceLE]
  refine (get_msg_calls (kind := 7) (b := [172, 2]) (by decide) (by decide) hc hcm (he.mono Nat.zero_lt_one fun k hk _ => hk)).mono ?_
  rw [ping_get]
  rintro v w2 ⟨cs2, rfl, hr2, k2⟩
  obtain ⟨w3, S3, hM3, k3, s3⟩ := store_msg hr2
  have s2 := k2.size
  simp -implicitDefEqProofs only [go_sem, ↓reduceIte, Nat.reduceEqDiff, Int.reduceLT, Nat.reduceLT, Int.reduceToNat, Int.reducePow, Nat.reduceAdd, Int.reduceEq, Nat.reduceLeDiff, Int.reduceLE, S3]
  generalize hb3 : w2.heap.size = b3 at *
  refine bsl_three ie8 ?_
  have kC : Keep w3 (w3.alloc (.cells #[.int .u8 172, .int .u8 2, .int .u8 0] 5)) := Fx.alloc _ _ _
  have heC : Elems (Kind.int .u8) (fun k => k < (w3.alloc (.cells #[.int .u8 172, .int .u8 2, .int .u8 0] 5)).heap.size) (w3.alloc (.cells #[.int .u8 172, .int .u8 2, .int .u8 0] 5)) (some (At w3.heap.size 0)) [172, 2, 0] :=
    elems_of (RdI.new w3 5 .u8 [172, 2, 0]) (fun ad e _ => by cases e; rw [size_alloc]; exact Nat.lt_succ_self _) (fun x hx => by simp at hx; rcases hx with rfl | rfl | rfl <;> rfl)
  have hM4 := hM3.keep kC
  generalize w3.alloc (.cells #[.int .u8 172, .int .u8 2, .int .u8 0] 5) = w4 at *
  simp -implicitDefEqProofs only [go_sem, ↓reduceIte, Nat.reduceEqDiff, Int.reduceLT, Nat.reduceLT, Int.reduceToNat, Int.reducePow, Nat.reduceAdd, Int.reduceEq, Nat.reduceLeDiff, Int.reduceLE]
  refine (get_msg_calls (kind := 7) (b := [172, 2, 0]) (by decide) (by decide) (Nat.le_refl 3) (by decide) heC).mono ?_
  rw [ping_more]
  rintro v w5 ⟨cs5, rfl, hr5, k5⟩
  obtain ⟨w6, S6, hM6, k6, s6⟩ := store_msg hr5
  simp -implicitDefEqProofs only [go_sem, ↓reduceIte, Nat.reduceEqDiff, Int.reduceLT, Nat.reduceLT, Int.reduceToNat, Int.reducePow, Nat.reduceAdd, Int.reduceEq, Nat.reduceLeDiff, Int.reduceLE, S6]
  have hM7 := (hM4.keep k5).keep k6
  refine (get_msg_calls (kind := 25) (A := none) (c := 0) (b := []) (by decide) (by decide) (Nat.le_refl 0) (Nat.zero_le _) (Elems.nil _ _ _ _)).mono ?_
  rw [kind_get]
  rintro v w8 ⟨cs8, rfl, hr8, k8⟩
  obtain ⟨w9, S9, hM9, k9, s9⟩ := store_msg hr8
  simp -implicitDefEqProofs only [go_sem, ↓reduceIte, Nat.reduceEqDiff, Int.reduceLT, Nat.reduceLT, Int.reduceToNat, Int.reducePow, Nat.reduceAdd, Int.reduceEq, Nat.reduceLeDiff, Int.reduceLE, S9]
  have kk : Keep w1 w9 := ((((k2.tr k3).tr kC).tr (k5.tr k6)).tr k8).tr k9
  have hrz := hr.fx kk (fun _ _ x => x)
  refine cv_bytes bs8 hrz ?_
  have hMz := (hM7.keep k8).keep k9
  obtain ⟨v, hc, hfz, hv, _⟩ := hMz.cell lnN rfl
  simp only [List.cons.injEq, and_true] at hv
  subst hv
  have z1 : ((strOfNums [172, 2]).toList == (⟨#[172, 2]⟩ : ByteArray).toList) = true := by kernel_rfl
  have z2 : ((0 : Int) == 0) = true := rfl
  have z3 : (ping.n == 300) = true := rfl
  have z4 : ((60 : Int) == 60) = true := rfl
  have z5 : ((61 : Int) == 61) = true := rfl
  simp -implicitDefEqProofs only [go_sem, ↓reduceIte, Nat.reduceEqDiff, Int.reduceLT, Nat.reduceLT, Int.reduceToNat, Int.reducePow, Nat.reduceAdd, Int.reduceEq, Nat.reduceLeDiff, Int.reduceLE, z1, z2, z3, z4, z5, hc]
  exact ⟨trivial, k1.tr kk⟩
end Go.Proofs.Ytnoeeiaffnbhcaa.F
