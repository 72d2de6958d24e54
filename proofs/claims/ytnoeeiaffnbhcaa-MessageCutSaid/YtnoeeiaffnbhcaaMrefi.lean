/- The document's own reading of a whole number. Conditions: the slice's places hold the bytes. -/
import Derived.Test.YtnoeeiaffnbhcaaMrefg
namespace Go.Proofs.Ytnoeeiaffnbhcaa.F
open Go.RowKit Go.Proofs.Ytnoeeiaffnbhcaa.M Go.Proofs.Ytnoeeiaffnbhcaa.V
set_option linter.unusedSimpArgs false
set_option linter.unusedVariables false
set_option maxRecDepth 20000

theorem refGetInt_calls {b : List Int} {A : Option Addr} {c : Nat} {w : World} (hr : RdI w .u8 A b) (hb : Bs b) (hl : b.length ≤ 9223372036854775807) (hc : b.length ≤ c) : callK Try.prog 80 #[.slice A b.length c] w fun v w' => v = getIV (vget b) ∧ Keep w w' := by
  refine callK_of Try.func80 c80 r80 (by exact Nat.le_of_ble_eq_true rfl) ?_
  rw [m80]
  simp -implicitDefEqProofs only [go_sem, ↓reduceIte, Nat.reduceEqDiff, Int.reduceLT, Nat.reduceLT, Int.reduceToNat, Int.reducePow, Nat.reduceAdd, Int.reduceEq, Nat.reduceLeDiff, Int.reduceLE]
  refine (refGet_calls hr hb hl hc).mono ?_
  rintro v w' ⟨rfl, hk⟩
  obtain ⟨n, hn, e⟩ := vget_range hb
  have e1 : (n : Int).tmod 2 = ((n % 2 : Nat) : Int) := rfl
  have e2 : (n : Int).tdiv 2 = ((n / 2 : Nat) : Int) := rfl
  have e3 : IntKind.u64.wrap ((n / 2 : Nat) : Int) = ((n / 2 : Nat) : Int) := u64_nat (by omega) (by omega)
  have e4 : IntKind.i64.wrap ((n / 2 : Nat) : Int) = ((n / 2 : Nat) : Int) := i64_nat (by omega) (by omega)
  unfold getIV
  rw [e]
  by_cases h : n % 2 = 0
  · have z : (((n % 2 : Nat) : Int) == 0) = true := by rw [beq_iff_eq]; omega
    have hz : zag (n : Int) = ((n / 2 : Nat) : Int) := by unfold zag; rw [if_pos (by omega)]; omega
    simp -implicitDefEqProofs only [go_sem, ↓reduceIte, Nat.reduceEqDiff, Int.reduceLT, Nat.reduceLT, Int.reduceToNat, Int.reducePow, Nat.reduceAdd, Int.reduceEq, Nat.reduceLeDiff, Int.reduceLE, getV, e, e1, e2, e3, e4, z]
    rw [hz]
    exact ⟨rfl, hk⟩
  · have z : (((n % 2 : Nat) : Int) == 0) = false := by rw [beq_eq_false_iff_ne]; omega
    have e5 : IntKind.i64.wrap (0 - ((n / 2 : Nat) : Int)) = -((n / 2 : Nat) : Int) := by rw [i64_w, w64_id (by omega) (by omega)]; omega
    have e6 : IntKind.i64.wrap (-((n / 2 : Nat) : Int) - 1) = zag (n : Int) := by unfold zag; rw [if_neg (by omega), i64_w, w64_id (by omega) (by omega)]; omega
    simp -implicitDefEqProofs only [go_sem, ↓reduceIte, Nat.reduceEqDiff, Int.reduceLT, Nat.reduceLT, Int.reduceToNat, Int.reducePow, Nat.reduceAdd, Int.reduceEq, Nat.reduceLeDiff, Int.reduceLE, getV, e, e1, e2, e3, e4, z, e5, e6]
    exact ⟨trivial, hk⟩

end Go.Proofs.Ytnoeeiaffnbhcaa.F
