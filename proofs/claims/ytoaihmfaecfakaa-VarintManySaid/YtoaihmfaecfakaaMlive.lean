/- The document's own GetInt, and the three examples that every law asks for first. Conditions: the slice's places hold the bytes. -/
import Derived.Test.YtoaihmfaecfakaaMrefg
namespace Go.Proofs.Ytoaihmfaecfakaa.F
open Go.RowKit Go.Proofs.Ytoaihmfaecfakaa.M Go.Proofs.Ytoaihmfaecfakaa.V
set_option linter.unusedSimpArgs false
set_option linter.unusedVariables false
set_option maxRecDepth 20000

theorem refGetInt_calls {b : List Int} {A : Option Addr} {c : Nat} {w : World} (hr : RdI w .u8 A b) (hb : Bs b) (hl : b.length ≤ 9223372036854775807) (hc : b.length ≤ c) : callK Try.prog 18 #[.slice A b.length c] w fun v w' => v = getIV (vget b) ∧ Keep w w' := by
  refine callK_of Try.func18 c18 r18 (by exact Nat.le_of_ble_eq_true rfl) ?_
  rw [m18]
  simp -implicitDefEqProofs only [go_sem, ↓reduceIte, Nat.reduceEqDiff, Int.reduceLT, not_false_eq_true, List.map_toArray, List.map_cons, List.map_nil, Option.isSome_some, Nat.reduceLT, Int.reduceToNat, Int.reducePow, Nat.reduceAdd, Int.toNat_natCast, Bool.not_true, Bool.not_false, Nat.mul_one, decide_true, decide_false, Bool.false_eq_true, List.getElem?_cons_zero, List.getElem?_cons_succ, Int.reduceEq, Option.map_some, Option.map_none]
  refine (refGet_calls hr hb hl hc).mono ?_
  rintro v w' ⟨rfl, hk⟩
  obtain ⟨n, hn, e⟩ := vget_range hb
  have e1 : (n : Int).tmod 2 = ((n % 2 : Nat) : Int) := rfl
  have e2 : (n : Int).tdiv 2 = ((n / 2 : Nat) : Int) := rfl
  have e3 : IntKind.u64.wrap ((n / 2 : Nat) : Int) = ((n / 2 : Nat) : Int) := u64_nat (by omega) (by omega)
  have e4 : IntKind.i64.wrap ((n / 2 : Nat) : Int) = ((n / 2 : Nat) : Int) := i64_nat (by omega) (by omega)
  unfold getIV
  rw [e]
  by_cases h : n % 2 = 0
  · have z : (((n % 2 : Nat) : Int) == 0) = true := by rw [beq_iff_eq]; omega
    have hz : zag (n : Int) = ((n / 2 : Nat) : Int) := by unfold zag; rw [if_pos (by omega)]; omega
    simp -implicitDefEqProofs only [go_sem, ↓reduceIte, Nat.reduceEqDiff, Int.reduceLT, not_false_eq_true, List.map_toArray, List.map_cons, List.map_nil, Option.isSome_some, Nat.reduceLT, Int.reduceToNat, Int.reducePow, Nat.reduceAdd, Int.toNat_natCast, Bool.not_true, Bool.not_false, Nat.mul_one, decide_true, decide_false, Bool.false_eq_true, List.getElem?_cons_zero, List.getElem?_cons_succ, Int.reduceEq, Option.map_some, Option.map_none, getV, e, e1, e2, e3, e4, z]
    rw [hz]
    exact ⟨rfl, hk⟩
  · have z : (((n % 2 : Nat) : Int) == 0) = false := by rw [beq_eq_false_iff_ne]; omega
    have e5 : IntKind.i64.wrap (0 - ((n / 2 : Nat) : Int)) = -((n / 2 : Nat) : Int) := by rw [i64_w, w64_id (by omega) (by omega)]; omega
    have e6 : IntKind.i64.wrap (-((n / 2 : Nat) : Int) - 1) = zag (n : Int) := by unfold zag; rw [if_neg (by omega), i64_w, w64_id (by omega) (by omega)]; omega
    simp -implicitDefEqProofs only [go_sem, ↓reduceIte, Nat.reduceEqDiff, Int.reduceLT, not_false_eq_true, List.map_toArray, List.map_cons, List.map_nil, Option.isSome_some, Nat.reduceLT, Int.reduceToNat, Int.reducePow, Nat.reduceAdd, Int.toNat_natCast, Bool.not_true, Bool.not_false, Nat.mul_one, decide_true, decide_false, Bool.false_eq_true, List.getElem?_cons_zero, List.getElem?_cons_succ, Int.reduceEq, Option.map_some, Option.map_none, getV, e, e1, e2, e3, e4, z, e5, e6]
    exact ⟨trivial, hk⟩

theorem str_300 : ((strOfNums (vput 300)).toList == ({ data := #[172, 2] } : ByteArray).toList) = true := by
  rw [vput_300]
  show ((strOfNums [172, 2]).toList == (strOfNums [172, 2]).toList) = true
  exact beq_self_eq_true _
theorem str_1 : ((strOfNums (vput 1)).toList == ({ data := #[1] } : ByteArray).toList) = true := by
  rw [vput_1]
  show ((strOfNums [1]).toList == (strOfNums [1]).toList) = true
  exact beq_self_eq_true _

theorem alive_calls (w : World) : callK Try.prog 10 #[] w fun v w' => v = .bool true ∧ Keep w w' := by
  refine callK_of Try.func10 c10 r10 (by exact Nat.le_of_ble_eq_true rfl) ?_
  rw [m10]
  simp -implicitDefEqProofs only [go_sem, ↓reduceIte, Nat.reduceEqDiff, Int.reduceLT, not_false_eq_true, List.map_toArray, List.map_cons, List.map_nil, Option.isSome_some, Nat.reduceLT, Int.reduceToNat, Int.reducePow, Nat.reduceAdd, Int.toNat_natCast, Bool.not_true, Bool.not_false, Nat.mul_one, decide_true, decide_false, Bool.false_eq_true, List.getElem?_cons_zero, List.getElem?_cons_succ, Int.reduceEq, Option.map_some, Option.map_none]
  refine bsl_three ie8 ?_
  simp -implicitDefEqProofs only [go_sem, ↓reduceIte, Nat.reduceEqDiff, Int.reduceLT, not_false_eq_true, List.map_toArray, List.map_cons, List.map_nil, Option.isSome_some, Nat.reduceLT, Int.reduceToNat, Int.reducePow, Nat.reduceAdd, Int.toNat_natCast, Bool.not_true, Bool.not_false, Nat.mul_one, decide_true, decide_false, Bool.false_eq_true, List.getElem?_cons_zero, List.getElem?_cons_succ, Int.reduceEq, Option.map_some, Option.map_none]
  refine (get_calls (b := [172, 2, 9]) (RdI.new w 5 .u8 [172, 2, 9]) (by intro x hx; simp at hx; omega) (by simp)).mono ?_
  rintro v w1 ⟨rfl, rfl⟩
  simp -implicitDefEqProofs only [go_sem, ↓reduceIte, Nat.reduceEqDiff, Int.reduceLT, not_false_eq_true, List.map_toArray, List.map_cons, List.map_nil, Option.isSome_some, Nat.reduceLT, Int.reduceToNat, Int.reducePow, Nat.reduceAdd, Int.toNat_natCast, Bool.not_true, Bool.not_false, Nat.mul_one, decide_true, decide_false, Bool.false_eq_true, List.getElem?_cons_zero, List.getElem?_cons_succ, Int.reduceEq, Option.map_some, Option.map_none, getV, vget_ex]
  refine (put_calls (n := 300) (by omega) _).mono ?_
  rintro v w2 ⟨o2, k2⟩
  obtain ⟨A2, c2, rfl, _, r2⟩ := o2.slice
  simp -implicitDefEqProofs only [go_sem, ↓reduceIte, Nat.reduceEqDiff, Int.reduceLT, not_false_eq_true, List.map_toArray, List.map_cons, List.map_nil, Option.isSome_some, Nat.reduceLT, Int.reduceToNat, Int.reducePow, Nat.reduceAdd, Int.toNat_natCast, Bool.not_true, Bool.not_false, Nat.mul_one, decide_true, decide_false, Bool.false_eq_true, List.getElem?_cons_zero, List.getElem?_cons_succ, Int.reduceEq, Option.map_some, Option.map_none]
  refine cv_bytes bs8 r2 ?_
  have z3 := str_300
  simp -implicitDefEqProofs only [go_sem, ↓reduceIte, Nat.reduceEqDiff, Int.reduceLT, not_false_eq_true, List.map_toArray, List.map_cons, List.map_nil, Option.isSome_some, Nat.reduceLT, Int.reduceToNat, Int.reducePow, Nat.reduceAdd, Int.toNat_natCast, Bool.not_true, Bool.not_false, Nat.mul_one, decide_true, decide_false, Bool.false_eq_true, List.getElem?_cons_zero, List.getElem?_cons_succ, Int.reduceEq, Option.map_some, Option.map_none, z3]
  refine (putInt_calls (a := -1) (by omega) (by omega) _).mono ?_
  rintro v w3 ⟨o3, k3⟩
  obtain ⟨A3, c3, rfl, _, r3⟩ := o3.slice
  simp -implicitDefEqProofs only [go_sem, ↓reduceIte, Nat.reduceEqDiff, Int.reduceLT, not_false_eq_true, List.map_toArray, List.map_cons, List.map_nil, Option.isSome_some, Nat.reduceLT, Int.reduceToNat, Int.reducePow, Nat.reduceAdd, Int.toNat_natCast, Bool.not_true, Bool.not_false, Nat.mul_one, decide_true, decide_false, Bool.false_eq_true, List.getElem?_cons_zero, List.getElem?_cons_succ, Int.reduceEq, Option.map_some, Option.map_none]
  refine cv_bytes bs8 r3 ?_
  have z1 : ((strOfNums (vput (zig (-1)))).toList == ({ data := #[1] } : ByteArray).toList) = true := str_1
  simp -implicitDefEqProofs only [go_sem, ↓reduceIte, Nat.reduceEqDiff, Int.reduceLT, not_false_eq_true, List.map_toArray, List.map_cons, List.map_nil, Option.isSome_some, Nat.reduceLT, Int.reduceToNat, Int.reducePow, Nat.reduceAdd, Int.toNat_natCast, Bool.not_true, Bool.not_false, Nat.mul_one, decide_true, decide_false, Bool.false_eq_true, List.getElem?_cons_zero, List.getElem?_cons_succ, Int.reduceEq, Option.map_some, Option.map_none, z1, beq_self_eq_true]
  exact ⟨trivial, (((Fx.refl _ w).then_alloc _).trans k2 (fun _ _ h => h)).trans k3 (fun _ _ h => h)⟩
end Go.Proofs.Ytoaihmfaecfakaa.F
