/- The document's own bytes of a whole number. Conditions: the number is of its kind. -/
import Derived.Test.YtnoeeiaffnbhcaaMrefv
namespace Go.Proofs.Ytnoeeiaffnbhcaa.F
open Go.RowKit Go.Proofs.Ytnoeeiaffnbhcaa.M Go.Proofs.Ytnoeeiaffnbhcaa.V
set_option linter.unusedSimpArgs false
set_option linter.unusedVariables false
set_option maxRecDepth 20000

theorem refPutInt_calls {a : Int} (h0 : -9223372036854775808 ≤ a) (h1 : a ≤ 9223372036854775807) (w : World) : callK Try.prog 64 #[.int .i64 a] w fun v w' => OwnI 5 .u8 w.heap.size w' v (vput (zig a)) ∧ Keep w w' := by
  refine callK_of Try.func64 c64 r64 (by exact Nat.le_of_ble_eq_true rfl) ?_
  rw [m64]
  by_cases h : 0 ≤ a
  · have e1 : IntKind.u64.wrap a = a := u64_nat (by omega) (by omega)
    have e2 : IntKind.u64.wrap (2 * a) = (zig a : Int) := by unfold zig; rw [if_pos h, u64_nat (by omega) (by omega)]; omega
    simp -implicitDefEqProofs only [go_sem, ↓reduceIte, Nat.reduceEqDiff, Int.reduceLT, Nat.reduceLT, Int.reduceToNat, Int.reducePow, Nat.reduceAdd, Int.reduceEq, Nat.reduceLeDiff, Int.reduceLE, h, e1, e2]
    refine (refPut_calls _ (zig_lt h0 h1) _).mono ?_
    intro v w' hv
    simp -implicitDefEqProofs only [go_sem, ↓reduceIte, Nat.reduceEqDiff, Int.reduceLT, Nat.reduceLT, Int.reduceToNat, Int.reducePow, Nat.reduceAdd, Int.reduceEq, Nat.reduceLeDiff, Int.reduceLE]
    exact hv
  · have e1 : IntKind.i64.wrap (a + 1) = a + 1 := by rw [i64_w, w64_id (by omega) (by omega)]
    have e2 : IntKind.i64.wrap (0 - (a + 1)) = -(a + 1) := by rw [i64_w, w64_id (by omega) (by omega)]; omega
    have e3 : IntKind.u64.wrap (-(a + 1)) = -(a + 1) := u64_nat (by omega) (by omega)
    have e4 : IntKind.u64.wrap (2 * (-(a + 1))) = 2 * (-(a + 1)) := u64_nat (by omega) (by omega)
    have e5 : IntKind.u64.wrap (2 * (-(a + 1)) + 1) = (zig a : Int) := by unfold zig; rw [if_neg h, u64_nat (by omega) (by omega)]; omega
    simp -implicitDefEqProofs only [go_sem, ↓reduceIte, Nat.reduceEqDiff, Int.reduceLT, Nat.reduceLT, Int.reduceToNat, Int.reducePow, Nat.reduceAdd, Int.reduceEq, Nat.reduceLeDiff, Int.reduceLE, h, e1, e2, e3, e4, e5]
    refine (refPut_calls _ (zig_lt h0 h1) _).mono ?_
    intro v w' hv
    simp -implicitDefEqProofs only [go_sem, ↓reduceIte, Nat.reduceEqDiff, Int.reduceLT, Nat.reduceLT, Int.reduceToNat, Int.reducePow, Nat.reduceAdd, Int.reduceEq, Nat.reduceLeDiff, Int.reduceLE]
    exact hv

end Go.Proofs.Ytnoeeiaffnbhcaa.F
