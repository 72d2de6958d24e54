/- The laws on sums answer true. Conditions: the slices' places hold the bytes. -/
import Derived.Test.YtkndmcaeppajmaaClive
import Derived.Test.YtkndmcaeppajmaaCrows
namespace Go.Proofs.Ytkndmcaeppajmaa.F
open Go.RowKit Go.Proofs.Ytkndmcaeppajmaa.M Go.Proofs.Ytkndmcaeppajmaa.V
set_option linter.unusedSimpArgs false
set_option linter.unusedVariables false
set_option maxRecDepth 20000

abbrev Keep (w w' : World) : Prop := Fx (fun _ => False) w w'
theorem Keep.one {w w1 w2 : World} {g : Nat} (h : Keep w w1) (hg : w.heap.size ≤ g) (h' : Fx (only g) w1 w2) : Keep w w2 := h.trans h' (fun k hk e => by have : k = g := e; omega)

theorem sums_walk (s : W32) {bs : List (BitVec 8)} {A : Option Addr} {n c : Nat} {w : World} (hn : n = bs.length) (hr : RdI w .u8 A (byts bs)) (hl : bs.length ≤ 9223372036854775807) :
    callK Try.prog 3 #[.int .u32 (wi s), .slice A n c] w fun v w' => v = .bool true ∧ Keep w w' := by
  subst hn
  refine callK_of Try.func3 c3 r3 (by exact Nat.le_of_ble_eq_true rfl) ?_
  rw [m3]
  simp -implicitDefEqProofs only [go_sem, ↓reduceIte, Nat.reduceEqDiff, Int.reduceLT, not_false_eq_true, List.map_toArray, List.map_cons, List.map_nil, Option.isSome_some, Nat.reduceLT, Int.reduceToNat, Int.reducePow, Nat.reduceAdd, Int.toNat_natCast, Bool.not_true, Bool.not_false, Nat.mul_one, decide_true, decide_false, Bool.false_eq_true, List.getElem?_cons_zero, List.getElem?_cons_succ, Int.reduceEq, Option.map_some, Option.map_none]
  refine (alive_calls w).mono ?_
  rintro v w1 ⟨rfl, k1⟩
  by_cases hb : (20000 : Int) < (bs.length : Int)
  · simp -implicitDefEqProofs only [go_sem, ↓reduceIte, Nat.reduceEqDiff, Int.reduceLT, not_false_eq_true, List.map_toArray, List.map_cons, List.map_nil, Option.isSome_some, Nat.reduceLT, Int.reduceToNat, Int.reducePow, Nat.reduceAdd, Int.toNat_natCast, Bool.not_true, Bool.not_false, Nat.mul_one, decide_true, decide_false, Bool.false_eq_true, List.getElem?_cons_zero, List.getElem?_cons_succ, Int.reduceEq, Option.map_some, Option.map_none, hb]
    exact ⟨trivial, k1⟩
  · simp -implicitDefEqProofs only [go_sem, ↓reduceIte, Nat.reduceEqDiff, Int.reduceLT, not_false_eq_true, List.map_toArray, List.map_cons, List.map_nil, Option.isSome_some, Nat.reduceLT, Int.reduceToNat, Int.reducePow, Nat.reduceAdd, Int.toNat_natCast, Bool.not_true, Bool.not_false, Nat.mul_one, decide_true, decide_false, Bool.false_eq_true, List.getElem?_cons_zero, List.getElem?_cons_succ, Int.reduceEq, Option.map_some, Option.map_none, hb]
    refine (new_calls w1).mono ?_
    rintro v w2 ⟨rfl, hf, k2, s2⟩
    have s1 := k1.size
    have r1 := hr.fx k1 (fun _ _ h => h)
    have r2 := r1.fx k2 (fun _ _ h => h)
    have off := off_new r1 (Nat.le_refl _)
    have kk2 := k1.trans k2 (fun _ _ h => h)
    simp -implicitDefEqProofs only [go_sem, ↓reduceIte, Nat.reduceEqDiff, Int.reduceLT, not_false_eq_true, List.map_toArray, List.map_cons, List.map_nil, Option.isSome_some, Nat.reduceLT, Int.reduceToNat, Int.reducePow, Nat.reduceAdd, Int.toNat_natCast, Bool.not_true, Bool.not_false, Nat.mul_one, decide_true, decide_false, Bool.false_eq_true, List.getElem?_cons_zero, List.getElem?_cons_succ, Int.reduceEq, Option.map_some, Option.map_none]
    refine (of_calls (.inl hf) r2 off hl).mono ?_
    rintro v w3 ⟨rfl, hR, hF⟩
    have r3 := rdI_fx r2 hF off
    have kk3 := Keep.one kk2 s1 hF
    simp -implicitDefEqProofs only [go_sem, ↓reduceIte, Nat.reduceEqDiff, Int.reduceLT, not_false_eq_true, List.map_toArray, List.map_cons, List.map_nil, Option.isSome_some, Nat.reduceLT, Int.reduceToNat, Int.reducePow, Nat.reduceAdd, Int.toNat_natCast, Bool.not_true, Bool.not_false, Nat.mul_one, decide_true, decide_false, Bool.false_eq_true, List.getElem?_cons_zero, List.getElem?_cons_succ, Int.reduceEq, Option.map_some, Option.map_none]
    refine (refOf_calls r3 hl).mono ?_
    rintro v w4 ⟨rfl, rfl⟩
    simp -implicitDefEqProofs only [go_sem, ↓reduceIte, Nat.reduceEqDiff, Int.reduceLT, not_false_eq_true, List.map_toArray, List.map_cons, List.map_nil, Option.isSome_some, Nat.reduceLT, Int.reduceToNat, Int.reducePow, Nat.reduceAdd, Int.toNat_natCast, Bool.not_true, Bool.not_false, Nat.mul_one, decide_true, decide_false, Bool.false_eq_true, List.getElem?_cons_zero, List.getElem?_cons_succ, Int.reduceEq, Option.map_some, Option.map_none, beq_self_eq_true]
    refine (more_calls (.inr hR) s r3 off hl).mono ?_
    rintro v w5 ⟨rfl, hR5, hF5⟩
    have r5 := rdI_fx r3 hF5 off
    simp -implicitDefEqProofs only [go_sem, ↓reduceIte, Nat.reduceEqDiff, Int.reduceLT, not_false_eq_true, List.map_toArray, List.map_cons, List.map_nil, Option.isSome_some, Nat.reduceLT, Int.reduceToNat, Int.reducePow, Nat.reduceAdd, Int.toNat_natCast, Bool.not_true, Bool.not_false, Nat.mul_one, decide_true, decide_false, Bool.false_eq_true, List.getElem?_cons_zero, List.getElem?_cons_succ, Int.reduceEq, Option.map_some, Option.map_none]
    refine (refMore_calls s r5 hl).mono ?_
    rintro v w6 ⟨rfl, rfl⟩
    simp -implicitDefEqProofs only [go_sem, ↓reduceIte, Nat.reduceEqDiff, Int.reduceLT, not_false_eq_true, List.map_toArray, List.map_cons, List.map_nil, Option.isSome_some, Nat.reduceLT, Int.reduceToNat, Int.reducePow, Nat.reduceAdd, Int.toNat_natCast, Bool.not_true, Bool.not_false, Nat.mul_one, decide_true, decide_false, Bool.false_eq_true, List.getElem?_cons_zero, List.getElem?_cons_succ, Int.reduceEq, Option.map_some, Option.map_none, beq_self_eq_true]
    exact ⟨trivial, Keep.one kk3 s1 hF5⟩
end Go.Proofs.Ytkndmcaeppajmaa.F
