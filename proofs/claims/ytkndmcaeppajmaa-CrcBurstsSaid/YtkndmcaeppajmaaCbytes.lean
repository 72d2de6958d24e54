/- One byte changed changes the sum. Conditions: the slice's places hold the bytes. -/
import Derived.Test.YtkndmcaeppajmaaCset
namespace Go.Proofs.Ytkndmcaeppajmaa.F
open Go.RowKit Go.Proofs.Ytkndmcaeppajmaa.M Go.Proofs.Ytkndmcaeppajmaa.V
set_option linter.unusedSimpArgs false
set_option linter.unusedVariables false
set_option maxRecDepth 20000

theorem byts_set (bs : List (BitVec 8)) (i : Nat) (z : BitVec 8) : (byts bs).set i (bi z) = byts (bs.set i z) := by simp [byts, List.map_set]
theorem byts_at {bs : List (BitVec 8)} {i : Nat} (h : i < bs.length) (h' : i < (byts bs).length) : (byts bs)[i] = bi bs[i] := by simp [byts]
theorem wi_ne {x y : W32} (h : x ≠ y) : (wi x != wi y) = true := by
  rw [bne_iff_ne]
  intro e
  exact h (BitVec.eq_of_toNat_eq (by exact_mod_cast e))
theorem byte_ne {bs : List (BitVec 8)} {i : Nat} (hi : i < bs.length) {m : BitVec 8} (hm : m ≠ 0#8) : more 0#32 bs ≠ more 0#32 (bs.set i (bs[i] ^^^ m)) := by
  have at_i : ∀ j, j / 8 = i → bitAt (bs.set i (bs[i] ^^^ m)) j = (bitAt bs j ^^ m.getLsbD (j % 8)) := by
    intro j hj
    unfold bitAt
    rw [hj, List.getD_eq_getElem?_getD, List.getElem?_set_self hi, List.getD_eq_getElem?_getD, List.getElem?_eq_getElem hi]
    simp [BitVec.getLsbD_xor]
  refine sum_ne (p := 8 * i) (by simp) ?_ ?_
  · intro j hj
    by_cases h : j / 8 = i
    · omega
    · refine absurd ?_ hj
      unfold bitAt
      rw [List.getD_eq_getElem?_getD, List.getD_eq_getElem?_getD, List.getElem?_set_ne (by omega)]
  · have : ∃ k, k < 8 ∧ m.getLsbD k = true := by
      refine Classical.byContradiction fun hc => hm ?_
      apply BitVec.eq_of_getLsbD_eq
      intro k hk
      cases hb : m.getLsbD k with
      | false => simp
      | true => exact absurd ⟨k, hk, hb⟩ hc
    obtain ⟨k, hk, hb⟩ := this
    refine ⟨8 * i + k, ?_⟩
    rw [at_i _ (by omega), show (8 * i + k) % 8 = k by omega, hb]
    cases bitAt bs (8 * i + k) <;> decide

theorem bytes_walk {a : Int} (m : BitVec 8) {bs : List (BitVec 8)} {A : Option Addr} {n c : Nat} {w : World} (hn : n = bs.length) (hr : RdI w .u8 A (byts bs)) (hl : bs.length ≤ 9223372036854775807) :
    callK Try.prog 7 #[.slice A n c, .int .i64 a, .int .u8 (bi m)] w fun v w' => v = .bool true ∧ Keep w w' := by
  subst hn
  refine callK_of Try.func7 c7 r7 (by exact Nat.le_of_ble_eq_true rfl) ?_
  rw [m7]
  simp -implicitDefEqProofs only [go_sem, ↓reduceIte, Nat.reduceEqDiff, Int.reduceLT, not_false_eq_true, List.map_toArray, List.map_cons, List.map_nil, Option.isSome_some, Nat.reduceLT, Int.reduceToNat, Int.reducePow, Nat.reduceAdd, Int.toNat_natCast, Bool.not_true, Bool.not_false, Nat.mul_one, decide_true, decide_false, Bool.false_eq_true, List.getElem?_cons_zero, List.getElem?_cons_succ, Int.reduceEq, Option.map_some, Option.map_none]
  refine (alive_calls w).mono ?_
  rintro v w1 ⟨rfl, k1⟩
  by_cases h0 : a < 0
  · simp -implicitDefEqProofs only [go_sem, ↓reduceIte, Nat.reduceEqDiff, Int.reduceLT, not_false_eq_true, List.map_toArray, List.map_cons, List.map_nil, Option.isSome_some, Nat.reduceLT, Int.reduceToNat, Int.reducePow, Nat.reduceAdd, Int.toNat_natCast, Bool.not_true, Bool.not_false, Nat.mul_one, decide_true, decide_false, Bool.false_eq_true, List.getElem?_cons_zero, List.getElem?_cons_succ, Int.reduceEq, Option.map_some, Option.map_none, h0]
    exact ⟨trivial, k1⟩
  by_cases h1 : (bs.length : Int) ≤ a
  · simp -implicitDefEqProofs only [go_sem, ↓reduceIte, Nat.reduceEqDiff, Int.reduceLT, not_false_eq_true, List.map_toArray, List.map_cons, List.map_nil, Option.isSome_some, Nat.reduceLT, Int.reduceToNat, Int.reducePow, Nat.reduceAdd, Int.toNat_natCast, Bool.not_true, Bool.not_false, Nat.mul_one, decide_true, decide_false, Bool.false_eq_true, List.getElem?_cons_zero, List.getElem?_cons_succ, Int.reduceEq, Option.map_some, Option.map_none, h0, h1]
    exact ⟨trivial, k1⟩
  by_cases h2 : (5000 : Int) < (bs.length : Int)
  · simp -implicitDefEqProofs only [go_sem, ↓reduceIte, Nat.reduceEqDiff, Int.reduceLT, not_false_eq_true, List.map_toArray, List.map_cons, List.map_nil, Option.isSome_some, Nat.reduceLT, Int.reduceToNat, Int.reducePow, Nat.reduceAdd, Int.toNat_natCast, Bool.not_true, Bool.not_false, Nat.mul_one, decide_true, decide_false, Bool.false_eq_true, List.getElem?_cons_zero, List.getElem?_cons_succ, Int.reduceEq, Option.map_some, Option.map_none, h0, h1, h2]
    exact ⟨trivial, k1⟩
  by_cases h3 : m = 0#8
  · have z : (bi m == 0) = true := by rw [h3]; rfl
    simp -implicitDefEqProofs only [go_sem, ↓reduceIte, Nat.reduceEqDiff, Int.reduceLT, not_false_eq_true, List.map_toArray, List.map_cons, List.map_nil, Option.isSome_some, Nat.reduceLT, Int.reduceToNat, Int.reducePow, Nat.reduceAdd, Int.toNat_natCast, Bool.not_true, Bool.not_false, Nat.mul_one, decide_true, decide_false, Bool.false_eq_true, List.getElem?_cons_zero, List.getElem?_cons_succ, Int.reduceEq, Option.map_some, Option.map_none, h0, h1, h2, z]
    exact ⟨trivial, k1⟩
  have z : (bi m == 0) = false := by
    rw [beq_eq_false_iff_ne]
    intro e
    exact h3 (BitVec.eq_of_toNat_eq (by exact_mod_cast e))
  obtain ⟨i, rfl⟩ := Int.eq_ofNat_of_zero_le (show 0 ≤ a by omega)
  have hi : i < bs.length := by omega
  have i0 : (0 : Int) ≤ (i : Int) := by omega
  have i1 : (i : Int) < (bs.length : Int) := by omega
  simp -implicitDefEqProofs only [go_sem, ↓reduceIte, Nat.reduceEqDiff, Int.reduceLT, not_false_eq_true, List.map_toArray, List.map_cons, List.map_nil, Option.isSome_some, Nat.reduceLT, Int.reduceToNat, Int.reducePow, Nat.reduceAdd, Int.toNat_natCast, Bool.not_true, Bool.not_false, Nat.mul_one, decide_true, decide_false, Bool.false_eq_true, List.getElem?_cons_zero, List.getElem?_cons_succ, Int.reduceEq, Option.map_some, Option.map_none, h0, h1, h2, z]
  refine bsl_zero ?_
  have r1 := hr.fx k1 (fun _ _ h => h)
  have s1 := k1.size
  simp -implicitDefEqProofs only [go_sem, ↓reduceIte, Nat.reduceEqDiff, Int.reduceLT, not_false_eq_true, List.map_toArray, List.map_cons, List.map_nil, Option.isSome_some, Nat.reduceLT, Int.reduceToNat, Int.reducePow, Nat.reduceAdd, Int.toNat_natCast, Bool.not_true, Bool.not_false, Nat.mul_one, decide_true, decide_false, Bool.false_eq_true, List.getElem?_cons_zero, List.getElem?_cons_succ, Int.reduceEq, Option.map_some, Option.map_none]
  refine copy_run r1 (by omega) ?_
  intro A2 c2 w2 hc2 o2 k2
  have lb := byts_len bs
  obtain ⟨g, rfl, hg, hgl, hcell, hfz, hset⟩ := own_set o2 (i := i) (by omega)
  rw [byts_at hi] at hcell
  have hsome : (w2.cell? (At g i)).isSome = true := by rw [hcell]; rfl
  have e1 := x8 bs[i] m
  simp -implicitDefEqProofs only [go_sem, ↓reduceIte, Nat.reduceEqDiff, Int.reduceLT, not_false_eq_true, List.map_toArray, List.map_cons, List.map_nil, Option.isSome_some, Nat.reduceLT, Int.reduceToNat, Int.reducePow, Nat.reduceAdd, Int.toNat_natCast, Bool.not_true, Bool.not_false, Nat.mul_one, decide_true, decide_false, Bool.false_eq_true, List.getElem?_cons_zero, List.getElem?_cons_succ, Int.reduceEq, Option.map_some, Option.map_none, i0, i1, add_off, hcell, hsome, hfz, e1, Nat.zero_add]
  have o3 := hset (bi (bs[i] ^^^ m))
  rw [byts_set] at o3
  have k3 : Keep w (w2.setCell (At g i) (.int .u8 (bi (bs[i] ^^^ m)))) := (k1.trans k2 (fun _ _ h => h)).trans (Fx.set (m := only g) w2 (At g i) _ rfl) (fun k hk e => by have : k = g := e; omega)
  have hlen : (bs.set i (bs[i] ^^^ m)).length = bs.length := by simp
  have hne := wi_ne (byte_ne hi h3)
  generalize w2.setCell (At g i) (.int .u8 (bi (bs[i] ^^^ m))) = w3 at *
  generalize bs.set i (bs[i] ^^^ m) = ys at *
  refine (new_calls w3).mono ?_
  rintro v w4 ⟨rfl, hf, k4, s4⟩
  have s3 := k3.size
  have r3 := hr.fx k3 (fun _ _ h => h)
  have r4 := r3.fx k4 (fun _ _ h => h)
  obtain ⟨A', c', e', _, q3⟩ := o3.slice
  injection e' with e1 e2 e3
  subst e1
  have q4 := q3.fx k4 (fun _ _ h => h)
  have off := off_new r3 (Nat.le_refl _)
  have off' := off_new q3 (Nat.le_refl _)
  simp -implicitDefEqProofs only [go_sem, ↓reduceIte, Nat.reduceEqDiff, Int.reduceLT, not_false_eq_true, List.map_toArray, List.map_cons, List.map_nil, Option.isSome_some, Nat.reduceLT, Int.reduceToNat, Int.reducePow, Nat.reduceAdd, Int.toNat_natCast, Bool.not_true, Bool.not_false, Nat.mul_one, decide_true, decide_false, Bool.false_eq_true, List.getElem?_cons_zero, List.getElem?_cons_succ, Int.reduceEq, Option.map_some, Option.map_none]
  refine (of_calls (.inl hf) r4 off hl).mono ?_
  rintro v w5 ⟨rfl, hR, hF⟩
  have q5 := rdI_fx q4 hF off'
  have k5 := Keep.one (k3.trans k4 (fun _ _ h => h)) s3 hF
  simp -implicitDefEqProofs only [go_sem, ↓reduceIte, Nat.reduceEqDiff, Int.reduceLT, not_false_eq_true, List.map_toArray, List.map_cons, List.map_nil, Option.isSome_some, Nat.reduceLT, Int.reduceToNat, Int.reducePow, Nat.reduceAdd, Int.toNat_natCast, Bool.not_true, Bool.not_false, Nat.mul_one, decide_true, decide_false, Bool.false_eq_true, List.getElem?_cons_zero, List.getElem?_cons_succ, Int.reduceEq, Option.map_some, Option.map_none]
  rw [← hlen]
  refine (of_calls (.inr hR) q5 off' (by omega)).mono ?_
  rintro v w6 ⟨rfl, hR6, hF6⟩
  simp -implicitDefEqProofs only [go_sem, ↓reduceIte, Nat.reduceEqDiff, Int.reduceLT, not_false_eq_true, List.map_toArray, List.map_cons, List.map_nil, Option.isSome_some, Nat.reduceLT, Int.reduceToNat, Int.reducePow, Nat.reduceAdd, Int.toNat_natCast, Bool.not_true, Bool.not_false, Nat.mul_one, decide_true, decide_false, Bool.false_eq_true, List.getElem?_cons_zero, List.getElem?_cons_succ, Int.reduceEq, Option.map_some, Option.map_none, hne]
  exact ⟨trivial, Keep.one k5 s3 hF6⟩
end Go.Proofs.Ytkndmcaeppajmaa.F
