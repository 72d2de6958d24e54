/- What each law asks first: a new Summer sums the nine digits as known. And the laws on sums against the document's own. Conditions: the slices' places hold the bytes. -/
import Derived.Test.YtkndmcaeppajmaaCmore
import Derived.Lib.SlBytesConst
namespace Go.Proofs.Ytkndmcaeppajmaa.F
open Go.RowKit Go.Proofs.Ytkndmcaeppajmaa.M Go.Proofs.Ytkndmcaeppajmaa.V
set_option linter.unusedSimpArgs false
set_option linter.unusedVariables false
set_option maxRecDepth 20000

theorem bin_pne {P : Program} {t e : TypeId} (ht : P.underlying t = some (.pointer e)) (a : Addr) (x y : Operand) {w : World} {k : Value → World → Prop} (hk : k (.bool true) w) : binK P .neq t x y (.pointer (some a)) (.pointer none) w k := by
  show runK P _ w k
  refine runK_of (v := .bool true) (w' := w) ?_ hk
  have h1 : (Op.equal t (.pointer (some a)) (.pointer none)).run P w = .ok false w := by
    have : ∀ d, (Op.equalIn (d + 1) t (.pointer (some a)) (.pointer none)).run P w = .ok false w := by
      intro d
      unfold Op.equalIn
      rw [Sem.run_bind, run_underlying ht]
      rfl
    exact this 9999
  show (do eqGuard .neq t x y (.pointer (some a)) (.pointer none); (do pure (.bool (!(← Op.equal t (.pointer (some a)) (.pointer none)))) : Sem Value) : Sem Value).run P w = _
  rw [Sem.run_bind]
  show (Result.ok () w).andThen _ = _
  simp only [Result.andThen]
  rw [Sem.run_bind, h1]
  rfl

def nine : List (BitVec 8) := [49#8, 50#8, 51#8, 52#8, 53#8, 54#8, 55#8, 56#8, 57#8]
theorem more_nine : wi (more 0#32 nine) = 3421780262 := by decide +kernel

theorem ie8 : IE Try.prog 23 5 .u8 1 := ⟨Try.underlying23, by kernel_rfl⟩
theorem bsl_nine {w : World} {k : Value → World → Prop} (hk : k (.slice (some ⟨w.heap.size, 0, none⟩) 9 9) (w.alloc (.cells ((byts nine).map (Value.int .u8)).toArray 5))) :
    bslK Try.prog 23 9 #[(0, .int .u8 49), (1, .int .u8 50), (2, .int .u8 51), (3, .int .u8 52), (4, .int .u8 53), (5, .int .u8 54), (6, .int .u8 55), (7, .int .u8 56), (8, .int .u8 57)] w k := by
  obtain ⟨ht, hi⟩ := ie8
  cases hinfo : Try.prog.info? 5 with
  | none => rw [hinfo] at hi; cases hi
  | some i =>
    rw [hinfo] at hi
    simp only [Option.map_some, Option.some.injEq, Prod.mk.injEq] at hi
    obtain ⟨hz, hs, hby⟩ := hi
    refine runK_of ?_ hk
    simp [Instr.buildSlice, run_underlying ht, sizeOf, typeInfo, hinfo, hs, zeroValue, hz, Instr.fill, Value.cells, newRow, newObj, go_sem]
    rfl

theorem rdI_marked (w : World) (e : TypeId) (kd : IntKind) (xs : List Int) (m : Nat × Nat) : RdI (w.alloc (.cells (xs.map (Value.int kd)).toArray e m)) kd (some ⟨w.heap.size, 0, none⟩) xs := by
  intro j x hx
  refine ⟨_, rfl, ?_⟩
  have e1 : (w.alloc (.cells (xs.map (Value.int kd)).toArray e m)).heap[w.heap.size]? = some (.cells (xs.map (Value.int kd)).toArray e m) := by
    show (w.heap.push _)[w.heap.size]? = _
    simp
  rw [add_off]
  unfold World.cell?
  rw [e1]
  simp [hx]

theorem alive_calls (w : World) : callK Try.prog 9 #[] w fun v w' => v = .bool true ∧ Fx (fun _ => False) w w' := by
  refine callK_of Try.func9 c9 r9 (by exact Nat.le_of_ble_eq_true rfl) ?_
  rw [m9]
  simp -implicitDefEqProofs only [go_sem, ↓reduceIte, Nat.reduceEqDiff, Int.reduceLT, not_false_eq_true, List.map_toArray, List.map_cons, List.map_nil, Option.isSome_some, Nat.reduceLT, Int.reduceToNat, Int.reducePow, Nat.reduceAdd, Int.toNat_natCast, Bool.not_true, Bool.not_false, Nat.mul_one, decide_true, decide_false, Bool.false_eq_true, List.getElem?_cons_zero, List.getElem?_cons_succ, Int.reduceEq, Option.map_some, Option.map_none]
  refine (new_calls w).mono ?_
  rintro v w1 ⟨rfl, hf, k1, s1⟩
  simp -implicitDefEqProofs only [go_sem, ↓reduceIte, Nat.reduceEqDiff, Int.reduceLT, not_false_eq_true, List.map_toArray, List.map_cons, List.map_nil, Option.isSome_some, Nat.reduceLT, Int.reduceToNat, Int.reducePow, Nat.reduceAdd, Int.toNat_natCast, Bool.not_true, Bool.not_false, Nat.mul_one, decide_true, decide_false, Bool.false_eq_true, List.getElem?_cons_zero, List.getElem?_cons_succ, Int.reduceEq, Option.map_some, Option.map_none]
  refine bin_pne Try.underlying25 _ _ _ ?_
  simp -implicitDefEqProofs only [go_sem, ↓reduceIte, Nat.reduceEqDiff, Int.reduceLT, not_false_eq_true, List.map_toArray, List.map_cons, List.map_nil, Option.isSome_some, Nat.reduceLT, Int.reduceToNat, Int.reducePow, Nat.reduceAdd, Int.toNat_natCast, Bool.not_true, Bool.not_false, Nat.mul_one, decide_true, decide_false, Bool.false_eq_true, List.getElem?_cons_zero, List.getElem?_cons_succ, Int.reduceEq, Option.map_some, Option.map_none]
  refine (made_calls hf).mono ?_
  rintro v w2 ⟨rfl, rfl⟩
  have z : ((0 : Int) != 0) = false := rfl
  simp -implicitDefEqProofs only [go_sem, ↓reduceIte, Nat.reduceEqDiff, Int.reduceLT, not_false_eq_true, List.map_toArray, List.map_cons, List.map_nil, Option.isSome_some, Nat.reduceLT, Int.reduceToNat, Int.reducePow, Nat.reduceAdd, Int.toNat_natCast, Bool.not_true, Bool.not_false, Nat.mul_one, decide_true, decide_false, Bool.false_eq_true, List.getElem?_cons_zero, List.getElem?_cons_succ, Int.reduceEq, Option.map_some, Option.map_none, z]
  refine bsl_nine ?_
  simp -implicitDefEqProofs only [go_sem, ↓reduceIte, Nat.reduceEqDiff, Int.reduceLT, not_false_eq_true, List.map_toArray, List.map_cons, List.map_nil, Option.isSome_some, Nat.reduceLT, Int.reduceToNat, Int.reducePow, Nat.reduceAdd, Int.toNat_natCast, Bool.not_true, Bool.not_false, Nat.mul_one, decide_true, decide_false, Bool.false_eq_true, List.getElem?_cons_zero, List.getElem?_cons_succ, Int.reduceEq, Option.map_some, Option.map_none]
  refine runK_of (Lib.run_convert_bytes_const w2 23 5 _ 9 9 Try.underlying23 Try.underlying5) ?_
  have k2 : Fx (fun _ => False) w2 (w2.alloc (.cells ((byts nine).map (Value.int .u8)).toArray 5 (((byts nine).map (Value.int .u8)).toArray.size, ((byts nine).map (Value.int .u8)).toArray.size + 1))) := Fx.alloc _ _ _
  have r2 := rdI_marked w2 5 .u8 (byts nine) (((byts nine).map (Value.int .u8)).toArray.size, ((byts nine).map (Value.int .u8)).toArray.size + 1)
  have hw : w2.heap.size ≠ w.heap.size := by omega
  generalize w2.alloc (.cells ((byts nine).map (Value.int .u8)).toArray 5 (((byts nine).map (Value.int .u8)).toArray.size, ((byts nine).map (Value.int .u8)).toArray.size + 1)) = w3 at *
  have h3 : Sum w3 w.heap.size := Sum.fx (.inl hf) k2 (fun h => h)
  simp -implicitDefEqProofs only [go_sem, ↓reduceIte, Nat.reduceEqDiff, Int.reduceLT, not_false_eq_true, List.map_toArray, List.map_cons, List.map_nil, Option.isSome_some, Nat.reduceLT, Int.reduceToNat, Int.reducePow, Nat.reduceAdd, Int.toNat_natCast, Bool.not_true, Bool.not_false, Nat.mul_one, decide_true, decide_false, Bool.false_eq_true, List.getElem?_cons_zero, List.getElem?_cons_succ, Int.reduceEq, Option.map_some, Option.map_none]
  refine (of_calls (bs := nine) (c := 9) h3 r2 (fun _ ad e => by cases e; exact hw) (by decide)).mono ?_
  rintro v w4 ⟨rfl, hR, hF⟩
  have e9 := more_nine
  simp -implicitDefEqProofs only [go_sem, ↓reduceIte, Nat.reduceEqDiff, Int.reduceLT, not_false_eq_true, List.map_toArray, List.map_cons, List.map_nil, Option.isSome_some, Nat.reduceLT, Int.reduceToNat, Int.reducePow, Nat.reduceAdd, Int.toNat_natCast, Bool.not_true, Bool.not_false, Nat.mul_one, decide_true, decide_false, Bool.false_eq_true, List.getElem?_cons_zero, List.getElem?_cons_succ, Int.reduceEq, Option.map_some, Option.map_none, e9, beq_self_eq_true]
  refine (made_calls hR).mono ?_
  rintro v w5 ⟨rfl, rfl⟩
  have z1 : ((1 : Int) != 0) = true := rfl
  simp -implicitDefEqProofs only [go_sem, ↓reduceIte, Nat.reduceEqDiff, Int.reduceLT, not_false_eq_true, List.map_toArray, List.map_cons, List.map_nil, Option.isSome_some, Nat.reduceLT, Int.reduceToNat, Int.reducePow, Nat.reduceAdd, Int.toNat_natCast, Bool.not_true, Bool.not_false, Nat.mul_one, decide_true, decide_false, Bool.false_eq_true, List.getElem?_cons_zero, List.getElem?_cons_succ, Int.reduceEq, Option.map_some, Option.map_none, z1]
  exact ⟨trivial, (k1.trans k2 (fun _ _ h => h)).trans hF (fun k hk e => by have : k = w.heap.size := e; omega)⟩
end Go.Proofs.Ytkndmcaeppajmaa.F
