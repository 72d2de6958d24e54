/- A sum goes on where another ended. Conditions: the slices' places hold the bytes. -/
import Derived.Test.YtkndmcaeppajmaaClaws
namespace Go.Proofs.Ytkndmcaeppajmaa.F
open Go.RowKit Go.Proofs.Ytkndmcaeppajmaa.M Go.Proofs.Ytkndmcaeppajmaa.V
set_option linter.unusedSimpArgs false
set_option linter.unusedVariables false
set_option maxRecDepth 20000

theorem bsl_zero {w : World} {k : Value → World → Prop} (hk : k (.slice (some ⟨w.heap.size, 0, none⟩) 0 0) (w.alloc (.cells #[] 5))) : bslK Try.prog 23 0 #[] w k := by
  obtain ⟨ht, hi⟩ := ie8
  cases hinfo : Try.prog.info? 5 with
  | none => rw [hinfo] at hi; cases hi
  | some i =>
    rw [hinfo] at hi
    simp only [Option.map_some, Option.some.injEq, Prod.mk.injEq] at hi
    obtain ⟨hz, hs, hby⟩ := hi
    refine runK_of ?_ hk
    simp [Instr.buildSlice, run_underlying ht, sizeOf, typeInfo, hinfo, hs, zeroValue, hz, Instr.fill, Value.cells, newRow, newObj, go_sem]
    rfl

theorem own_off {e : TypeId} {b : Nat} {w : World} {A : Option Addr} {n c : Nat} {xs : List Int} (h : OwnI e .u8 b w (.slice A n c) xs) {g : Nat} (hg : g < b) : ∀ ad, A = some ad → ad.block ≠ g := by
  intro ad hA e
  have := (h.lt (k := ad.block) (by rw [hA]; rfl)).1
  omega

/-- A slice's numbers are put behind no numbers: a copy of the call's own. -/
theorem copy_run {bs : List (BitVec 8)} {A : Option Addr} {c : Nat} {w : World} {k : Value → World → Prop} (hr : RdI w .u8 A (byts bs)) (hl : bs.length ≤ 20000)
    (hk : ∀ A' c' w', bs.length ≤ c' → OwnI 5 .u8 w.heap.size w' (.slice A' bs.length c') (byts bs) → Keep w w' → k (.slice A' bs.length c') w') :
    appK Try.prog #[23, 23] 23 #[.slice (some ⟨w.heap.size, 0, none⟩) 0 0, .slice A bs.length c] (w.alloc (.cells #[] 5)) k := by
  have o1 : OwnI 5 .u8 w.heap.size (w.alloc (.cells #[] 5)) (.slice (some ⟨w.heap.size, 0, none⟩) 0 0) [] := OwnI.new w 5 .u8 [] (Nat.le_refl _) (by simp)
  have r1 := hr.fx (Fx.alloc (fun _ => False) w (.cells #[] 5)) (fun _ _ h => h)
  have hb := byts_len bs
  rw [← hb] at hk ⊢
  refine append_own ie8 (by decide) o1 r1 (by simp only [List.length_nil]; omega) (by rw [size_alloc]; omega) ?_
  intro v w' o hf _
  rw [List.nil_append] at o
  obtain ⟨A', c', rfl, hc, _⟩ := o.slice
  exact hk A' c' w' hc o (((Fx.refl _ w).then_alloc _).then_own o1 hf)

theorem more_walk {a b : List (BitVec 8)} {A B : Option Addr} {n m c d : Nat} {w : World} (hn : n = a.length) (hm : m = b.length) (ha : RdI w .u8 A (byts a)) (hb : RdI w .u8 B (byts b)) (hl : a.length ≤ 9223372036854775807) (hl' : b.length ≤ 9223372036854775807) :
    callK Try.prog 4 #[.slice A n c, .slice B m d] w fun v w' => v = .bool true ∧ Keep w w' := by
  subst hn hm
  refine callK_of Try.func4 c4 r4 (by exact Nat.le_of_ble_eq_true rfl) ?_
  rw [m4]
  simp -implicitDefEqProofs only [go_sem, ↓reduceIte, Nat.reduceEqDiff, Int.reduceLT, not_false_eq_true, List.map_toArray, List.map_cons, List.map_nil, Option.isSome_some, Nat.reduceLT, Int.reduceToNat, Int.reducePow, Nat.reduceAdd, Int.toNat_natCast, Bool.not_true, Bool.not_false, Nat.mul_one, decide_true, decide_false, Bool.false_eq_true, List.getElem?_cons_zero, List.getElem?_cons_succ, Int.reduceEq, Option.map_some, Option.map_none]
  refine (alive_calls w).mono ?_
  rintro v w1 ⟨rfl, k1⟩
  by_cases h1 : (20000 : Int) < (a.length : Int)
  · simp -implicitDefEqProofs only [go_sem, ↓reduceIte, Nat.reduceEqDiff, Int.reduceLT, not_false_eq_true, List.map_toArray, List.map_cons, List.map_nil, Option.isSome_some, Nat.reduceLT, Int.reduceToNat, Int.reducePow, Nat.reduceAdd, Int.toNat_natCast, Bool.not_true, Bool.not_false, Nat.mul_one, decide_true, decide_false, Bool.false_eq_true, List.getElem?_cons_zero, List.getElem?_cons_succ, Int.reduceEq, Option.map_some, Option.map_none, h1]
    exact ⟨trivial, k1⟩
  by_cases h2 : (20000 : Int) < (b.length : Int)
  · simp -implicitDefEqProofs only [go_sem, ↓reduceIte, Nat.reduceEqDiff, Int.reduceLT, not_false_eq_true, List.map_toArray, List.map_cons, List.map_nil, Option.isSome_some, Nat.reduceLT, Int.reduceToNat, Int.reducePow, Nat.reduceAdd, Int.toNat_natCast, Bool.not_true, Bool.not_false, Nat.mul_one, decide_true, decide_false, Bool.false_eq_true, List.getElem?_cons_zero, List.getElem?_cons_succ, Int.reduceEq, Option.map_some, Option.map_none, h1, h2]
    exact ⟨trivial, k1⟩
  simp -implicitDefEqProofs only [go_sem, ↓reduceIte, Nat.reduceEqDiff, Int.reduceLT, not_false_eq_true, List.map_toArray, List.map_cons, List.map_nil, Option.isSome_some, Nat.reduceLT, Int.reduceToNat, Int.reducePow, Nat.reduceAdd, Int.toNat_natCast, Bool.not_true, Bool.not_false, Nat.mul_one, decide_true, decide_false, Bool.false_eq_true, List.getElem?_cons_zero, List.getElem?_cons_succ, Int.reduceEq, Option.map_some, Option.map_none, h1, h2]
  refine (new_calls w1).mono ?_
  rintro v w2 ⟨rfl, hf, k2, s2⟩
  have s1 := k1.size
  have a1 := ha.fx k1 (fun _ _ h => h)
  have b1 := hb.fx k1 (fun _ _ h => h)
  have a2 := a1.fx k2 (fun _ _ h => h)
  have b2 := b1.fx k2 (fun _ _ h => h)
  have oa := off_new a1 (Nat.le_refl _)
  have ob := off_new b1 (Nat.le_refl _)
  have kk2 := k1.trans k2 (fun _ _ h => h)
  simp -implicitDefEqProofs only [go_sem, ↓reduceIte, Nat.reduceEqDiff, Int.reduceLT, not_false_eq_true, List.map_toArray, List.map_cons, List.map_nil, Option.isSome_some, Nat.reduceLT, Int.reduceToNat, Int.reducePow, Nat.reduceAdd, Int.toNat_natCast, Bool.not_true, Bool.not_false, Nat.mul_one, decide_true, decide_false, Bool.false_eq_true, List.getElem?_cons_zero, List.getElem?_cons_succ, Int.reduceEq, Option.map_some, Option.map_none]
  refine (of_calls (.inl hf) a2 oa hl).mono ?_
  rintro v w3 ⟨rfl, hR, hF⟩
  have a3 := rdI_fx a2 hF oa
  have b3 := rdI_fx b2 hF ob
  have kk3 := Keep.one kk2 s1 hF
  simp -implicitDefEqProofs only [go_sem, ↓reduceIte, Nat.reduceEqDiff, Int.reduceLT, not_false_eq_true, List.map_toArray, List.map_cons, List.map_nil, Option.isSome_some, Nat.reduceLT, Int.reduceToNat, Int.reducePow, Nat.reduceAdd, Int.toNat_natCast, Bool.not_true, Bool.not_false, Nat.mul_one, decide_true, decide_false, Bool.false_eq_true, List.getElem?_cons_zero, List.getElem?_cons_succ, Int.reduceEq, Option.map_some, Option.map_none]
  refine (more_calls (.inr hR) _ b3 ob hl').mono ?_
  rintro v w4 ⟨rfl, hR4, hF4⟩
  have a4 := rdI_fx a3 hF4 oa
  have b4 := rdI_fx b3 hF4 ob
  have kk4 := Keep.one kk3 s1 hF4
  have s4 := hF4.size
  have s3 := hF.size
  simp -implicitDefEqProofs only [go_sem, ↓reduceIte, Nat.reduceEqDiff, Int.reduceLT, not_false_eq_true, List.map_toArray, List.map_cons, List.map_nil, Option.isSome_some, Nat.reduceLT, Int.reduceToNat, Int.reducePow, Nat.reduceAdd, Int.toNat_natCast, Bool.not_true, Bool.not_false, Nat.mul_one, decide_true, decide_false, Bool.false_eq_true, List.getElem?_cons_zero, List.getElem?_cons_succ, Int.reduceEq, Option.map_some, Option.map_none]
  refine bsl_zero ?_
  simp -implicitDefEqProofs only [go_sem, ↓reduceIte, Nat.reduceEqDiff, Int.reduceLT, not_false_eq_true, List.map_toArray, List.map_cons, List.map_nil, Option.isSome_some, Nat.reduceLT, Int.reduceToNat, Int.reducePow, Nat.reduceAdd, Int.toNat_natCast, Bool.not_true, Bool.not_false, Nat.mul_one, decide_true, decide_false, Bool.false_eq_true, List.getElem?_cons_zero, List.getElem?_cons_succ, Int.reduceEq, Option.map_some, Option.map_none]
  refine copy_run a4 (by omega) ?_
  intro A5 c5 w5 hc5 o5 k5
  have b5 := b4.fx k5 (fun _ _ h => h)
  have hR5 : Ready w5 w1.heap.size := k5.blk hR4 (fun h => h)
  have s5 := k5.size
  have la := byts_len a
  have lb := byts_len b
  simp -implicitDefEqProofs only [go_sem, ↓reduceIte, Nat.reduceEqDiff, Int.reduceLT, not_false_eq_true, List.map_toArray, List.map_cons, List.map_nil, Option.isSome_some, Nat.reduceLT, Int.reduceToNat, Int.reducePow, Nat.reduceAdd, Int.toNat_natCast, Bool.not_true, Bool.not_false, Nat.mul_one, decide_true, decide_false, Bool.false_eq_true, List.getElem?_cons_zero, List.getElem?_cons_succ, Int.reduceEq, Option.map_some, Option.map_none]
  rw [← lb]
  refine append_own ie8 (by decide) o5 b5 (by omega) s5 ?_
  intro v w6 o6 hf6 _
  have hR6 : Ready w6 w1.heap.size := hf6.blk hR5 (fun e => by have := (o5.lt e).1; omega)
  have k6 := (kk4.trans k5 (fun _ _ h => h)).then_own (o5.lower (b' := w.heap.size) (by omega)) hf6
  obtain ⟨A6, c6, rfl, hc6, r6⟩ := o6.slice
  have happ : byts a ++ byts b = byts (a ++ b) := by simp [byts]
  rw [happ] at o6 r6
  have hlen : (byts a ++ byts b).length = (a ++ b).length := by rw [happ, byts_len]
  rw [hlen] at *
  simp -implicitDefEqProofs only [go_sem, ↓reduceIte, Nat.reduceEqDiff, Int.reduceLT, not_false_eq_true, List.map_toArray, List.map_cons, List.map_nil, Option.isSome_some, Nat.reduceLT, Int.reduceToNat, Int.reducePow, Nat.reduceAdd, Int.toNat_natCast, Bool.not_true, Bool.not_false, Nat.mul_one, decide_true, decide_false, Bool.false_eq_true, List.getElem?_cons_zero, List.getElem?_cons_succ, Int.reduceEq, Option.map_some, Option.map_none]
  refine (of_calls (.inr hR6) r6 (fun _ => own_off o6 (by omega)) (by rw [List.length_append]; omega)).mono ?_
  rintro v w7 ⟨rfl, hR7, hF7⟩
  have z := more_append 0#32 a b
  rw [z]
  simp -implicitDefEqProofs only [go_sem, ↓reduceIte, Nat.reduceEqDiff, Int.reduceLT, not_false_eq_true, List.map_toArray, List.map_cons, List.map_nil, Option.isSome_some, Nat.reduceLT, Int.reduceToNat, Int.reducePow, Nat.reduceAdd, Int.toNat_natCast, Bool.not_true, Bool.not_false, Nat.mul_one, decide_true, decide_false, Bool.false_eq_true, List.getElem?_cons_zero, List.getElem?_cons_succ, Int.reduceEq, Option.map_some, Option.map_none, beq_self_eq_true]
  exact ⟨trivial, Keep.one k6 s1 hF7⟩
end Go.Proofs.Ytkndmcaeppajmaa.F
