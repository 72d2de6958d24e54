/- A Summer's sums stand by themselves: another Summer, a copy of the bytes. Conditions: the slices' places hold the bytes. -/
import Derived.Test.YtkndmcaeppajmaaCmorelaw
namespace Go.Proofs.Ytkndmcaeppajmaa.F
open Go.RowKit Go.Proofs.Ytkndmcaeppajmaa.M Go.Proofs.Ytkndmcaeppajmaa.V
set_option linter.unusedSimpArgs false
set_option linter.unusedVariables false
set_option maxRecDepth 20000

theorem bs8 : BS Try.prog 23 5 9 := ⟨Try.underlying23, Try.underlying5, Try.underlying9⟩
/-- A slice's places hold slices of bytes. -/
def RdB (w : World) (A : Option Addr) (rows : List (Option Addr × Nat × List (BitVec 8))) : Prop :=
  ∀ j r, rows[j]? = some r → r.2.2.length ≤ r.2.1 ∧ (∃ ad, A = some ad ∧ w.cell? (ad.add j) = some (.slice r.1 r.2.2.length r.2.1)) ∧ RdI w .u8 r.1 (byts r.2.2)
theorem RdB.fx {w w' : World} {A : Option Addr} {rows : List (Option Addr × Nat × List (BitVec 8))} (h : RdB w A rows) (hf : Keep w w') : RdB w' A rows := by
  intro j r hj
  obtain ⟨h0, ⟨ad, hA, hc⟩, hr⟩ := h j r hj
  refine ⟨h0, ⟨ad, hA, ?_⟩, hr.fx hf (fun _ _ h => h)⟩
  have hb := World.block_lt_of_cell? w _ hc
  have := hf.block _ hb (fun h => h)
  unfold World.cell? at hc ⊢
  rw [this]
  exact hc

theorem own_walk {rows : List (Option Addr × Nat × List (BitVec 8))} {A : Option Addr} {n c : Nat} {w : World} (hn : n = rows.length) (hr : RdB w A rows) (hl : rows.length ≤ 9223372036854775807) :
    callK Try.prog 8 #[.slice A n c] w fun v w' => v = .bool true ∧ Keep w w' := by
  subst hn
  refine callK_of Try.func8 c8 r8 (by exact Nat.le_of_ble_eq_true rfl) ?_
  rw [m8]
  simp -implicitDefEqProofs only [go_sem, ↓reduceIte, Nat.reduceEqDiff, Int.reduceLT, not_false_eq_true, List.map_toArray, List.map_cons, List.map_nil, Option.isSome_some, Nat.reduceLT, Int.reduceToNat, Int.reducePow, Nat.reduceAdd, Int.toNat_natCast, Bool.not_true, Bool.not_false, Nat.mul_one, decide_true, decide_false, Bool.false_eq_true, List.getElem?_cons_zero, List.getElem?_cons_succ, Int.reduceEq, Option.map_some, Option.map_none]
  refine (alive_calls w).mono ?_
  rintro v w1 ⟨rfl, k1⟩
  simp -implicitDefEqProofs only [go_sem, ↓reduceIte, Nat.reduceEqDiff, Int.reduceLT, not_false_eq_true, List.map_toArray, List.map_cons, List.map_nil, Option.isSome_some, Nat.reduceLT, Int.reduceToNat, Int.reducePow, Nat.reduceAdd, Int.toNat_natCast, Bool.not_true, Bool.not_false, Nat.mul_one, decide_true, decide_false, Bool.false_eq_true, List.getElem?_cons_zero, List.getElem?_cons_succ, Int.reduceEq, Option.map_some, Option.map_none]
  refine (new_calls w1).mono ?_
  rintro v w2 ⟨rfl, hf1, k2, s2⟩
  have s1 := k1.size
  have kk2 : Keep w w2 := k1.trans k2 (fun _ _ h => h)
  obtain ⟨g, hg⟩ : ∃ g, g = w1.heap.size := ⟨_, rfl⟩
  rw [← hg] at hf1 ⊢
  have hge : w.heap.size ≤ g := by omega
  simp -implicitDefEqProofs only [go_sem, ↓reduceIte, Nat.reduceEqDiff, Int.reduceLT, not_false_eq_true, List.map_toArray, List.map_cons, List.map_nil, Option.isSome_some, Nat.reduceLT, Int.reduceToNat, Int.reducePow, Nat.reduceAdd, Int.toNat_natCast, Bool.not_true, Bool.not_false, Nat.mul_one, decide_true, decide_false, Bool.false_eq_true, List.getElem?_cons_zero, List.getElem?_cons_succ, Int.reduceEq, Option.map_some, Option.map_none]
  refine loop_intro (fun q f w' => ∃ i : Nat, q = rows.length - i ∧ i ≤ rows.length ∧ f 0 = .slice A rows.length c ∧ f 3 = .pointer (some (At g 0)) ∧ f 4 = .int .i64 i ∧ Sum w' g ∧ g < w'.heap.size ∧ Keep w w') rows.length
    ⟨0, rfl, by omega, by simp -implicitDefEqProofs only [go_sem, ↓reduceIte, Nat.reduceEqDiff, Int.reduceLT, not_false_eq_true, List.map_toArray, List.map_cons, List.map_nil, Option.isSome_some, Nat.reduceLT, Int.reduceToNat, Int.reducePow, Nat.reduceAdd, Int.toNat_natCast, Bool.not_true, Bool.not_false, Nat.mul_one, decide_true, decide_false, Bool.false_eq_true, List.getElem?_cons_zero, List.getElem?_cons_succ, Int.reduceEq, Option.map_some, Option.map_none], by simp -implicitDefEqProofs only [go_sem, ↓reduceIte, Nat.reduceEqDiff, Int.reduceLT, not_false_eq_true, List.map_toArray, List.map_cons, List.map_nil, Option.isSome_some, Nat.reduceLT, Int.reduceToNat, Int.reducePow, Nat.reduceAdd, Int.toNat_natCast, Bool.not_true, Bool.not_false, Nat.mul_one, decide_true, decide_false, Bool.false_eq_true, List.getElem?_cons_zero, List.getElem?_cons_succ, Int.reduceEq, Option.map_some, Option.map_none], by simp -implicitDefEqProofs only [go_sem, ↓reduceIte, Nat.reduceEqDiff, Int.reduceLT, not_false_eq_true, List.map_toArray, List.map_cons, List.map_nil, Option.isSome_some, Nat.reduceLT, Int.reduceToNat, Int.reducePow, Nat.reduceAdd, Int.toNat_natCast, Bool.not_true, Bool.not_false, Nat.mul_one, decide_true, decide_false, Bool.false_eq_true, List.getElem?_cons_zero, List.getElem?_cons_succ, Int.reduceEq, Option.map_some, Option.map_none]; rfl, .inl hf1, by omega, kk2⟩ ?_
  rintro q f w3 ⟨i, rfl, hi, g0, g3, g4, hS, hgl, kk⟩
  by_cases h1 : i < rows.length
  · by_cases h2 : i < 40
    · have i0 : (0 : Int) ≤ (i : Int) := by omega
      have i1 : (i : Int) < (rows.length : Int) := by omega
      have i2 : (i : Int) < 40 := by omega
      obtain ⟨⟨A1, c1, b⟩, hrow⟩ : ∃ r, rows[i]? = some r := ⟨_, List.getElem?_eq_getElem h1⟩
      obtain ⟨hc1, ⟨ad, rfl, hc⟩, rb⟩ := (hr.fx kk) i _ hrow
      simp only at hc1 hc rb
      have e7 : IntKind.i64.wrap ((i : Int) + 1) = ((i + 1 : Nat) : Int) := i64_nat (by omega) (by omega)
      by_cases h20 : (2000 : Int) < (b.length : Int)
      · simp -implicitDefEqProofs only [go_sem, ↓reduceIte, Nat.reduceEqDiff, Int.reduceLT, not_false_eq_true, List.map_toArray, List.map_cons, List.map_nil, Option.isSome_some, Nat.reduceLT, Int.reduceToNat, Int.reducePow, Nat.reduceAdd, Int.toNat_natCast, Bool.not_true, Bool.not_false, Nat.mul_one, decide_true, decide_false, Bool.false_eq_true, List.getElem?_cons_zero, List.getElem?_cons_succ, Int.reduceEq, Option.map_some, Option.map_none, g0, g3, g4, i0, i1, i2, hc, h20]
        exact ⟨trivial, kk⟩
      · simp -implicitDefEqProofs only [go_sem, ↓reduceIte, Nat.reduceEqDiff, Int.reduceLT, not_false_eq_true, List.map_toArray, List.map_cons, List.map_nil, Option.isSome_some, Nat.reduceLT, Int.reduceToNat, Int.reducePow, Nat.reduceAdd, Int.toNat_natCast, Bool.not_true, Bool.not_false, Nat.mul_one, decide_true, decide_false, Bool.false_eq_true, List.getElem?_cons_zero, List.getElem?_cons_succ, Int.reduceEq, Option.map_some, Option.map_none, g0, g3, g4, i0, i1, i2, hc, h20]
        refine bsl_zero ?_
        have ka : Keep w3 (w3.alloc (.cells #[] 5)) := Fx.alloc _ _ _
        obtain ⟨_, ⟨ad', e, hca⟩, _⟩ := ((hr.fx kk).fx ka) i _ hrow
        cases e
        simp only at hca
        simp -implicitDefEqProofs only [go_sem, ↓reduceIte, Nat.reduceEqDiff, Int.reduceLT, not_false_eq_true, List.map_toArray, List.map_cons, List.map_nil, Option.isSome_some, Nat.reduceLT, Int.reduceToNat, Int.reducePow, Nat.reduceAdd, Int.toNat_natCast, Bool.not_true, Bool.not_false, Nat.mul_one, decide_true, decide_false, Bool.false_eq_true, List.getElem?_cons_zero, List.getElem?_cons_succ, Int.reduceEq, Option.map_some, Option.map_none, g0, g3, g4, i0, i1, i2, hca]
        refine copy_run rb (by omega) ?_
        intro A5 c5 w5 hc5 o5 k5
        have kk5 : Keep w w5 := kk.trans k5 (fun _ _ h => h)
        have hS5 := hS.fx k5 (fun h => h)
        obtain ⟨_, ⟨ad', e, hc5'⟩, rb5⟩ := (hr.fx kk5) i _ hrow
        cases e
        simp only at hc5' rb5
        have hcd : w5.drew.cell? (ad.add i) = some (.slice A1 b.length c1) := hc5'
        simp -implicitDefEqProofs only [go_sem, ↓reduceIte, Nat.reduceEqDiff, Int.reduceLT, not_false_eq_true, List.map_toArray, List.map_cons, List.map_nil, Option.isSome_some, Nat.reduceLT, Int.reduceToNat, Int.reducePow, Nat.reduceAdd, Int.toNat_natCast, Bool.not_true, Bool.not_false, Nat.mul_one, decide_true, decide_false, Bool.false_eq_true, List.getElem?_cons_zero, List.getElem?_cons_succ, Int.reduceEq, Option.map_some, Option.map_none, g0, g3, g4, i0, i1, hcd]
        have s5 := kk5.size
        have hgl5 : g < w5.heap.size := Nat.lt_of_lt_of_le hgl k5.size
        have off1 := off_new (hr i _ hrow).2.2 hge
        have rbd : RdI w5.drew .u8 A1 (byts b) := rb5
        have hSd : Sum w5.drew g := hS5
        refine (of_calls hSd rbd off1 (by omega)).mono ?_
        rintro v w6 ⟨rfl, hR6, hF6⟩
        have kd : Keep w w5.drew := kk5.trans (Fx.drew _ w5) (fun _ _ h => h)
        have kk6 := Keep.one kd hge hF6
        have s6 := hF6.size
        have offc : ∀ ad, A5 = some ad → ad.block ≠ g := own_off o5 hgl
        obtain ⟨A5', c5', e, _, r5⟩ := o5.slice
        injection e with e1 e2 e3
        subst e1
        have r5d : RdI w5.drew .u8 A5 (byts b) := r5
        have r6 := rdI_fx r5d hF6 (fun _ => offc)
        simp -implicitDefEqProofs only [go_sem, ↓reduceIte, Nat.reduceEqDiff, Int.reduceLT, not_false_eq_true, List.map_toArray, List.map_cons, List.map_nil, Option.isSome_some, Nat.reduceLT, Int.reduceToNat, Int.reducePow, Nat.reduceAdd, Int.toNat_natCast, Bool.not_true, Bool.not_false, Nat.mul_one, decide_true, decide_false, Bool.false_eq_true, List.getElem?_cons_zero, List.getElem?_cons_succ, Int.reduceEq, Option.map_some, Option.map_none]
        refine (new_calls w6).mono ?_
        rintro v w7 ⟨rfl, hf7, k7, s7⟩
        have r7 := r6.fx k7 (fun _ _ h => h)
        have hR7 : Ready w7 g := k7.blk hR6 (fun h => h)
        simp -implicitDefEqProofs only [go_sem, ↓reduceIte, Nat.reduceEqDiff, Int.reduceLT, not_false_eq_true, List.map_toArray, List.map_cons, List.map_nil, Option.isSome_some, Nat.reduceLT, Int.reduceToNat, Int.reducePow, Nat.reduceAdd, Int.toNat_natCast, Bool.not_true, Bool.not_false, Nat.mul_one, decide_true, decide_false, Bool.false_eq_true, List.getElem?_cons_zero, List.getElem?_cons_succ, Int.reduceEq, Option.map_some, Option.map_none]
        refine (of_calls (.inl hf7) r7 (off_new r6 (Nat.le_refl _)) (by omega)).mono ?_
        rintro v w8 ⟨rfl, hR8, hF8⟩
        have s56 : w5.heap.size ≤ w6.heap.size := s6
        have r8 := rdI_fx r7 hF8 (off_new r6 (Nat.le_refl _))
        have hRg8 : Ready w8 g := hF8.blk hR7 (fun e => by have : g = w6.heap.size := e; omega)
        have k7' := kk6.trans k7 (fun _ _ h => h)
        have kk8 := Keep.one k7' (by have := kk6.size; omega) hF8
        obtain ⟨_, ⟨ad', e, hc8⟩, rb8⟩ := (hr.fx kk8) i _ hrow
        cases e
        simp only at hc8 rb8
        have z : ((wi (more 0#32 b)) != (wi (more 0#32 b))) = false := by simp
        simp -implicitDefEqProofs only [go_sem, ↓reduceIte, Nat.reduceEqDiff, Int.reduceLT, not_false_eq_true, List.map_toArray, List.map_cons, List.map_nil, Option.isSome_some, Nat.reduceLT, Int.reduceToNat, Int.reducePow, Nat.reduceAdd, Int.toNat_natCast, Bool.not_true, Bool.not_false, Nat.mul_one, decide_true, decide_false, Bool.false_eq_true, List.getElem?_cons_zero, List.getElem?_cons_succ, Int.reduceEq, Option.map_some, Option.map_none, g0, g4, i0, i1, z]
        refine seg_intro (fun w' => RdI w' .u8 A5 (byts b)) r8 ?_
        simp -implicitDefEqProofs only [go_sem, ↓reduceIte, Nat.reduceEqDiff, Int.reduceLT, not_false_eq_true, List.map_toArray, List.map_cons, List.map_nil, Option.isSome_some, Nat.reduceLT, Int.reduceToNat, Int.reducePow, Nat.reduceAdd, Int.toNat_natCast, Bool.not_true, Bool.not_false, Nat.mul_one, decide_true, decide_false, Bool.false_eq_true, List.getElem?_cons_zero, List.getElem?_cons_succ, Int.reduceEq, Option.map_some, Option.map_none]
        refine hld_intro (.string (strOfNums (byts b))) r8 (fun w' hw' => ?_) ?_
        · simp -implicitDefEqProofs only [go_sem, ↓reduceIte, Nat.reduceEqDiff, Int.reduceLT, not_false_eq_true, List.map_toArray, List.map_cons, List.map_nil, Option.isSome_some, Nat.reduceLT, Int.reduceToNat, Int.reducePow, Nat.reduceAdd, Int.toNat_natCast, Bool.not_true, Bool.not_false, Nat.mul_one, decide_true, decide_false, Bool.false_eq_true, List.getElem?_cons_zero, List.getElem?_cons_succ, Int.reduceEq, Option.map_some, Option.map_none]
          exact cv_bytesN bs8 (byts_len b) hw' ⟨rfl, rfl⟩
        simp -implicitDefEqProofs only [go_sem, ↓reduceIte, Nat.reduceEqDiff, Int.reduceLT, not_false_eq_true, List.map_toArray, List.map_cons, List.map_nil, Option.isSome_some, Nat.reduceLT, Int.reduceToNat, Int.reducePow, Nat.reduceAdd, Int.toNat_natCast, Bool.not_true, Bool.not_false, Nat.mul_one, decide_true, decide_false, Bool.false_eq_true, List.getElem?_cons_zero, List.getElem?_cons_succ, Int.reduceEq, Option.map_some, Option.map_none, hc8]
        refine goE_intro r8 ?_
        simp -implicitDefEqProofs only [go_sem, ↓reduceIte, Nat.reduceEqDiff, Int.reduceLT, not_false_eq_true, List.map_toArray, List.map_cons, List.map_nil, Option.isSome_some, Nat.reduceLT, Int.reduceToNat, Int.reducePow, Nat.reduceAdd, Int.toNat_natCast, Bool.not_true, Bool.not_false, Nat.mul_one, decide_true, decide_false, Bool.false_eq_true, List.getElem?_cons_zero, List.getElem?_cons_succ, Int.reduceEq, Option.map_some, Option.map_none]
        refine cv_bytesN bs8 (byts_len b) rb8 ?_
        refine goE_intro r8 ?_
        simp -implicitDefEqProofs only [go_sem, ↓reduceIte, Nat.reduceEqDiff, Int.reduceLT, not_false_eq_true, List.map_toArray, List.map_cons, List.map_nil, Option.isSome_some, Nat.reduceLT, Int.reduceToNat, Int.reducePow, Nat.reduceAdd, Int.toNat_natCast, Bool.not_true, Bool.not_false, Nat.mul_one, decide_true, decide_false, Bool.false_eq_true, List.getElem?_cons_zero, List.getElem?_cons_succ, Int.reduceEq, Option.map_some, Option.map_none, beq_self_eq_true, g3]
        have offc' : Off A5 b g := fun _ => offc
        refine (of_calls (.inr hRg8) r8 offc' (by omega)).mono ?_
        rintro v w9 ⟨rfl, hR9, hF9⟩
        have r9 := rdI_fx r8 hF9 offc'
        have kk9 := Keep.one kk8 hge hF9
        simp -implicitDefEqProofs only [go_sem, ↓reduceIte, Nat.reduceEqDiff, Int.reduceLT, not_false_eq_true, List.map_toArray, List.map_cons, List.map_nil, Option.isSome_some, Nat.reduceLT, Int.reduceToNat, Int.reducePow, Nat.reduceAdd, Int.toNat_natCast, Bool.not_true, Bool.not_false, Nat.mul_one, decide_true, decide_false, Bool.false_eq_true, List.getElem?_cons_zero, List.getElem?_cons_succ, Int.reduceEq, Option.map_some, Option.map_none]
        refine (refOf_calls r9 (by omega)).mono ?_
        rintro v w10 ⟨rfl, rfl⟩
        simp -implicitDefEqProofs only [go_sem, ↓reduceIte, Nat.reduceEqDiff, Int.reduceLT, not_false_eq_true, List.map_toArray, List.map_cons, List.map_nil, Option.isSome_some, Nat.reduceLT, Int.reduceToNat, Int.reducePow, Nat.reduceAdd, Int.toNat_natCast, Bool.not_true, Bool.not_false, Nat.mul_one, decide_true, decide_false, Bool.false_eq_true, List.getElem?_cons_zero, List.getElem?_cons_succ, Int.reduceEq, Option.map_some, Option.map_none, z, g0, g3, g4, e7]
        exact ⟨rows.length - (i + 1), by omega, i + 1, rfl, by omega, by simp -implicitDefEqProofs only [go_sem, ↓reduceIte, Nat.reduceEqDiff, Int.reduceLT, not_false_eq_true, List.map_toArray, List.map_cons, List.map_nil, Option.isSome_some, Nat.reduceLT, Int.reduceToNat, Int.reducePow, Nat.reduceAdd, Int.toNat_natCast, Bool.not_true, Bool.not_false, Nat.mul_one, decide_true, decide_false, Bool.false_eq_true, List.getElem?_cons_zero, List.getElem?_cons_succ, Int.reduceEq, Option.map_some, Option.map_none, g0], by simp -implicitDefEqProofs only [go_sem, ↓reduceIte, Nat.reduceEqDiff, Int.reduceLT, not_false_eq_true, List.map_toArray, List.map_cons, List.map_nil, Option.isSome_some, Nat.reduceLT, Int.reduceToNat, Int.reducePow, Nat.reduceAdd, Int.toNat_natCast, Bool.not_true, Bool.not_false, Nat.mul_one, decide_true, decide_false, Bool.false_eq_true, List.getElem?_cons_zero, List.getElem?_cons_succ, Int.reduceEq, Option.map_some, Option.map_none, g3], by simp -implicitDefEqProofs only [go_sem, ↓reduceIte, Nat.reduceEqDiff, Int.reduceLT, not_false_eq_true, List.map_toArray, List.map_cons, List.map_nil, Option.isSome_some, Nat.reduceLT, Int.reduceToNat, Int.reducePow, Nat.reduceAdd, Int.toNat_natCast, Bool.not_true, Bool.not_false, Nat.mul_one, decide_true, decide_false, Bool.false_eq_true, List.getElem?_cons_zero, List.getElem?_cons_succ, Int.reduceEq, Option.map_some, Option.map_none], .inr hR9, Blk.lt hR9, kk9⟩
    · have i1 : (i : Int) < (rows.length : Int) := by omega
      have i2 : ¬ (i : Int) < 40 := by omega
      simp -implicitDefEqProofs only [go_sem, ↓reduceIte, Nat.reduceEqDiff, Int.reduceLT, not_false_eq_true, List.map_toArray, List.map_cons, List.map_nil, Option.isSome_some, Nat.reduceLT, Int.reduceToNat, Int.reducePow, Nat.reduceAdd, Int.toNat_natCast, Bool.not_true, Bool.not_false, Nat.mul_one, decide_true, decide_false, Bool.false_eq_true, List.getElem?_cons_zero, List.getElem?_cons_succ, Int.reduceEq, Option.map_some, Option.map_none, g0, g3, g4, i1, i2]
      exact ⟨trivial, kk⟩
  · have i1 : ¬ (i : Int) < (rows.length : Int) := by omega
    simp -implicitDefEqProofs only [go_sem, ↓reduceIte, Nat.reduceEqDiff, Int.reduceLT, not_false_eq_true, List.map_toArray, List.map_cons, List.map_nil, Option.isSome_some, Nat.reduceLT, Int.reduceToNat, Int.reducePow, Nat.reduceAdd, Int.toNat_natCast, Bool.not_true, Bool.not_false, Nat.mul_one, decide_true, decide_false, Bool.false_eq_true, List.getElem?_cons_zero, List.getElem?_cons_succ, Int.reduceEq, Option.map_some, Option.map_none, g0, g3, g4, i1]
    exact ⟨trivial, kk⟩
end Go.Proofs.Ytkndmcaeppajmaa.F
