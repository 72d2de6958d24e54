/- The bytes that varint.Put and PutInt give are those of the number. Conditions: the number is of its kind. -/
import Derived.Test.YtnoeeiaffnbhcaaMext
import Derived.Test.YtnoeeiaffnbhcaaMfns
import Derived.Test.YtnoeeiaffnbhcaaVbits
namespace Go.Proofs.Ytnoeeiaffnbhcaa.F
open Go.RowKit Go.Proofs.Ytnoeeiaffnbhcaa.M Go.Proofs.Ytnoeeiaffnbhcaa.V
set_option linter.unusedSimpArgs false
set_option linter.unusedVariables false
set_option maxRecDepth 20000

theorem ie8 : IE Try.prog 33 5 .u8 1 := ⟨Try.underlying33, by kernel_rfl⟩


theorem put_calls {n : Nat} (hn : n < 18446744073709551616) (w : World) : callK Try.prog 85 #[.int .u64 n] w fun v w' => OwnI 5 .u8 w.heap.size w' v (vput n) ∧ Keep w w' := by
  refine callK_of Try.func85 c85 r85 (by exact Nat.le_of_ble_eq_true rfl) ?_
  have h10 := vput_u64 hn
  rw [m85]
  simp -implicitDefEqProofs only [go_sem, ↓reduceIte, Nat.reduceEqDiff, Int.reduceLT, Nat.reduceLT, Int.reduceToNat, Int.reducePow, Nat.reduceAdd, Int.reduceEq, Nat.reduceLeDiff, Int.reduceLE]
  refine loop_intro (fun k f w' => ∃ (m : Nat) (xs : List Int) (v : Value), k = m ∧ f 0 = .int .u64 m ∧ f 3 = v ∧ xs ++ vput m = vput n ∧ OwnI 5 .u8 w.heap.size w' v xs ∧ Keep w w') n ⟨n, [], _, rfl, by simp -implicitDefEqProofs only [go_sem, ↓reduceIte, Nat.reduceEqDiff, Int.reduceLT, Nat.reduceLT, Int.reduceToNat, Int.reducePow, Nat.reduceAdd, Int.reduceEq, Nat.reduceLeDiff, Int.reduceLE], by simp -implicitDefEqProofs only [go_sem, ↓reduceIte, Nat.reduceEqDiff, Int.reduceLT, Nat.reduceLT, Int.reduceToNat, Int.reducePow, Nat.reduceAdd, Int.reduceEq, Nat.reduceLeDiff, Int.reduceLE], rfl, OwnI.nil _ _ _ _, Fx.refl _ _⟩ ?_
  rintro k f w1 ⟨m, xs, v, rfl, h0, h3, hxs, hown, hk⟩
  have hl := congrArg List.length hxs
  rw [List.length_append] at hl
  have hp := vput_pos k
  have hs := hk.size
  by_cases hm : k < 128
  · have hd : decide ((128 : Int) ≤ (k : Int)) = false := decide_eq_false (by omega)
    have hb : IntKind.u8.wrap (k : Int) = k := by rw [IntKind.wrap_u8]; omega
    simp -implicitDefEqProofs only [go_sem, ↓reduceIte, Nat.reduceEqDiff, Int.reduceLT, Nat.reduceLT, Int.reduceToNat, Int.reducePow, Nat.reduceAdd, Int.reduceEq, Nat.reduceLeDiff, Int.reduceLE, h0, h3, hd, hb]
    refine bsl_one ie8 ?_
    simp -implicitDefEqProofs only [go_sem, ↓reduceIte, Nat.reduceEqDiff, Int.reduceLT, Nat.reduceLT, Int.reduceToNat, Int.reducePow, Nat.reduceAdd, Int.reduceEq, Nat.reduceLeDiff, Int.reduceLE, h0, h3]
    refine append_own (ys := [(k : Int)]) ie8 (by decide) (hown.alloc _) (RdI.new w1 5 .u8 [(k : Int)]) (by simp only [List.length_cons, List.length_nil]; omega) (by rw [size_alloc]; omega) ?_
    intro v' w2 hown' hf _
    simp -implicitDefEqProofs only [go_sem, ↓reduceIte, Nat.reduceEqDiff, Int.reduceLT, Nat.reduceLT, Int.reduceToNat, Int.reducePow, Nat.reduceAdd, Int.reduceEq, Nat.reduceLeDiff, Int.reduceLE]
    rw [vput_small hm] at hxs
    rw [hxs] at hown'
    exact ⟨hown', (hk.then_alloc _).then_own (hown.alloc _) hf⟩
  · have hd : decide ((128 : Int) ≤ (k : Int)) = true := decide_eq_true (by omega)
    have hb : Go.bits .or .u8 (IntKind.u8.wrap (k : Int)) 128 = ((k % 128 + 128 : Nat) : Int) := by rw [IntKind.wrap_u8]; exact or_128
    simp -implicitDefEqProofs only [go_sem, ↓reduceIte, Nat.reduceEqDiff, Int.reduceLT, Nat.reduceLT, Int.reduceToNat, Int.reducePow, Nat.reduceAdd, Int.reduceEq, Nat.reduceLeDiff, Int.reduceLE, h0, h3, hd, hb]
    refine bsl_one ie8 ?_
    simp -implicitDefEqProofs only [go_sem, ↓reduceIte, Nat.reduceEqDiff, Int.reduceLT, Nat.reduceLT, Int.reduceToNat, Int.reducePow, Nat.reduceAdd, Int.reduceEq, Nat.reduceLeDiff, Int.reduceLE, h0, h3]
    refine append_own (ys := [((k % 128 + 128 : Nat) : Int)]) ie8 (by decide) (hown.alloc _) (RdI.new w1 5 .u8 [((k % 128 + 128 : Nat) : Int)]) (by simp only [List.length_cons, List.length_nil]; omega) (by rw [size_alloc]; omega) ?_
    intro v' w2 hown' hf _
    simp -implicitDefEqProofs only [go_sem, ↓reduceIte, Nat.reduceEqDiff, Int.reduceLT, Nat.reduceLT, Int.reduceToNat, Int.reducePow, Nat.reduceAdd, Int.reduceEq, Nat.reduceLeDiff, Int.reduceLE, h0]
    refine ⟨k / 128, by omega, k / 128, _, v', rfl, by simp -implicitDefEqProofs only [go_sem, ↓reduceIte, Nat.reduceEqDiff, Int.reduceLT, Nat.reduceLT, Int.reduceToNat, Int.reducePow, Nat.reduceAdd, Int.reduceEq, Nat.reduceLeDiff, Int.reduceLE]; rfl, by simp -implicitDefEqProofs only [go_sem, ↓reduceIte, Nat.reduceEqDiff, Int.reduceLT, Nat.reduceLT, Int.reduceToNat, Int.reducePow, Nat.reduceAdd, Int.reduceEq, Nat.reduceLeDiff, Int.reduceLE], ?_, hown', (hk.then_alloc _).then_own (hown.alloc _) hf⟩
    rw [← hxs, vput_big hm, List.append_assoc]
    rfl

theorem putInt_calls {a : Int} (h0 : -9223372036854775808 ≤ a) (h1 : a ≤ 9223372036854775807) (w : World) : callK Try.prog 88 #[.int .i64 a] w fun v w' => OwnI 5 .u8 w.heap.size w' v (vput (zig a)) ∧ Keep w w' := by
  refine callK_of Try.func88 c88 r88 (by exact Nat.le_of_ble_eq_true rfl) ?_
  rw [m88]
  have hz : bits .xor .u64 (IntKind.u64.wrap (IntKind.i64.wrap (a * 2))) (IntKind.u64.wrap (a / 9223372036854775808)) = (zig a : Int) := by
    rw [i64_w]; exact zig_bits h0 h1
  simp -implicitDefEqProofs only [go_sem, ↓reduceIte, Nat.reduceEqDiff, Int.reduceLT, Nat.reduceLT, Int.reduceToNat, Int.reducePow, Nat.reduceAdd, Int.reduceEq, Nat.reduceLeDiff, Int.reduceLE, hz]
  refine (put_calls (zig_lt h0 h1) _).mono ?_
  intro v w' h
  simp -implicitDefEqProofs only [go_sem, ↓reduceIte, Nat.reduceEqDiff, Int.reduceLT, Nat.reduceLT, Int.reduceToNat, Int.reducePow, Nat.reduceAdd, Int.reduceEq, Nat.reduceLeDiff, Int.reduceLE]
  exact h
end Go.Proofs.Ytnoeeiaffnbhcaa.F
