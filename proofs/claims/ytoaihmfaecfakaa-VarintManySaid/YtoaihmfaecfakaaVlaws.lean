/- The laws on numbers as bytes answer true, whatever they are given. Conditions: the numbers are of their kinds; the slices' places hold them. -/
import Derived.Test.YtoaihmfaecfakaaMlive
namespace Go.Proofs.Ytoaihmfaecfakaa.F
open Go.RowKit Go.Proofs.Ytoaihmfaecfakaa.M Go.Proofs.Ytoaihmfaecfakaa.V
set_option linter.unusedSimpArgs false
set_option linter.unusedVariables false
set_option maxRecDepth 20000

theorem gets_walk {b : List Int} {A : Option Addr} {c : Nat} {w : World} (hr : RdI w .u8 A b) (hb : Bs b) (hl : b.length ≤ 9223372036854775807) (hc : b.length ≤ c) : callK Try.prog 8 #[.slice A b.length c] w fun v w' => v = .bool true ∧ Keep w w' := by
  refine callK_of Try.func8 c8 r8 (by exact Nat.le_of_ble_eq_true rfl) ?_
  rw [m8]
  simp -implicitDefEqProofs only [go_sem, ↓reduceIte, Nat.reduceEqDiff, Int.reduceLT, not_false_eq_true, List.map_toArray, List.map_cons, List.map_nil, Option.isSome_some, Nat.reduceLT, Int.reduceToNat, Int.reducePow, Nat.reduceAdd, Int.toNat_natCast, Bool.not_true, Bool.not_false, Nat.mul_one, decide_true, decide_false, Bool.false_eq_true, List.getElem?_cons_zero, List.getElem?_cons_succ, Int.reduceEq, Option.map_some, Option.map_none]
  refine (alive_calls w).mono ?_
  rintro v w1 ⟨rfl, k1⟩
  have r1 := hr.fx k1 (fun _ _ h => h)
  simp -implicitDefEqProofs only [go_sem, ↓reduceIte, Nat.reduceEqDiff, Int.reduceLT, not_false_eq_true, List.map_toArray, List.map_cons, List.map_nil, Option.isSome_some, Nat.reduceLT, Int.reduceToNat, Int.reducePow, Nat.reduceAdd, Int.toNat_natCast, Bool.not_true, Bool.not_false, Nat.mul_one, decide_true, decide_false, Bool.false_eq_true, List.getElem?_cons_zero, List.getElem?_cons_succ, Int.reduceEq, Option.map_some, Option.map_none]
  refine (get_calls r1 hb hl).mono ?_
  rintro v w2 ⟨rfl, rfl⟩
  simp -implicitDefEqProofs only [go_sem, ↓reduceIte, Nat.reduceEqDiff, Int.reduceLT, not_false_eq_true, List.map_toArray, List.map_cons, List.map_nil, Option.isSome_some, Nat.reduceLT, Int.reduceToNat, Int.reducePow, Nat.reduceAdd, Int.toNat_natCast, Bool.not_true, Bool.not_false, Nat.mul_one, decide_true, decide_false, Bool.false_eq_true, List.getElem?_cons_zero, List.getElem?_cons_succ, Int.reduceEq, Option.map_some, Option.map_none, getV]
  refine (refGet_calls r1 hb hl hc).mono ?_
  rintro v w3 ⟨rfl, k3⟩
  have r3 := r1.fx k3 (fun _ _ h => h)
  simp -implicitDefEqProofs only [go_sem, ↓reduceIte, Nat.reduceEqDiff, Int.reduceLT, not_false_eq_true, List.map_toArray, List.map_cons, List.map_nil, Option.isSome_some, Nat.reduceLT, Int.reduceToNat, Int.reducePow, Nat.reduceAdd, Int.toNat_natCast, Bool.not_true, Bool.not_false, Nat.mul_one, decide_true, decide_false, Bool.false_eq_true, List.getElem?_cons_zero, List.getElem?_cons_succ, Int.reduceEq, Option.map_some, Option.map_none, getV]
  refine (getInt_calls r3 hb hl).mono ?_
  rintro v w4 ⟨rfl, rfl⟩
  simp -implicitDefEqProofs only [go_sem, ↓reduceIte, Nat.reduceEqDiff, Int.reduceLT, not_false_eq_true, List.map_toArray, List.map_cons, List.map_nil, Option.isSome_some, Nat.reduceLT, Int.reduceToNat, Int.reducePow, Nat.reduceAdd, Int.toNat_natCast, Bool.not_true, Bool.not_false, Nat.mul_one, decide_true, decide_false, Bool.false_eq_true, List.getElem?_cons_zero, List.getElem?_cons_succ, Int.reduceEq, Option.map_some, Option.map_none, getIV]
  refine (refGetInt_calls r3 hb hl hc).mono ?_
  rintro v w5 ⟨rfl, k5⟩
  simp -implicitDefEqProofs only [go_sem, ↓reduceIte, Nat.reduceEqDiff, Int.reduceLT, not_false_eq_true, List.map_toArray, List.map_cons, List.map_nil, Option.isSome_some, Nat.reduceLT, Int.reduceToNat, Int.reducePow, Nat.reduceAdd, Int.toNat_natCast, Bool.not_true, Bool.not_false, Nat.mul_one, decide_true, decide_false, Bool.false_eq_true, List.getElem?_cons_zero, List.getElem?_cons_succ, Int.reduceEq, Option.map_some, Option.map_none, getIV, beq_self_eq_true]
  exact ⟨trivial, (k1.trans k3 (fun _ _ h => h)).trans k5 (fun _ _ h => h)⟩

theorem put_xor (m : Nat) : vput (2 * m) = vput (2 * m) ∧ (vput (2 * m)).length = (vput (2 * m + 1)).length ∧ (vput (2 * m)).drop 1 = (vput (2 * m + 1)).drop 1 := by
  refine ⟨rfl, ?_, ?_⟩
  · by_cases h : 2 * m < 128
    · rw [vput_small h, vput_small (by omega)]; rfl
    · rw [vput_big h, vput_big (by omega : ¬ 2 * m + 1 < 128), show (2 * m + 1) / 128 = 2 * m / 128 by omega]; rfl
  · by_cases h : 2 * m < 128
    · rw [vput_small h, vput_small (by omega)]; rfl
    · rw [vput_big h, vput_big (by omega : ¬ 2 * m + 1 < 128), show (2 * m + 1) / 128 = 2 * m / 128 by omega]; rfl
theorem xor_pair : ∀ m : Fin 128, bits .xor .u8 (((2 * m.1 : Nat)) : Int) ((2 * m.1 + 1 : Nat) : Int) = 1 := by decide
theorem put_first (m : Nat) : ∃ j : Fin 128, (vput (2 * m))[0]? = some ((2 * j.1 : Nat) : Int) ∧ (vput (2 * m + 1))[0]? = some ((2 * j.1 + 1 : Nat) : Int) := by
  by_cases h : 2 * m < 128
  · exact ⟨⟨m, by omega⟩, by rw [vput_small h]; rfl, by rw [vput_small (by omega)]; rfl⟩
  · refine ⟨⟨m % 64 + 64, by omega⟩, ?_, ?_⟩
    · rw [vput_big h]; simp only [List.getElem?_cons_zero]; congr 1; omega
    · rw [vput_big (by omega)]; simp only [List.getElem?_cons_zero]; congr 1; omega

theorem ints_walk {a : Int} (h0 : -9223372036854775808 ≤ a) (h1 : a ≤ 9223372036854775807) {w : World} : callK Try.prog 6 #[.int .i64 a] w fun v w' => v = .bool true ∧ Keep w w' := by
  refine callK_of Try.func6 c6 r6 (by exact Nat.le_of_ble_eq_true rfl) ?_
  rw [m6]
  simp -implicitDefEqProofs only [go_sem, ↓reduceIte, Nat.reduceEqDiff, Int.reduceLT, not_false_eq_true, List.map_toArray, List.map_cons, List.map_nil, Option.isSome_some, Nat.reduceLT, Int.reduceToNat, Int.reducePow, Nat.reduceAdd, Int.toNat_natCast, Bool.not_true, Bool.not_false, Nat.mul_one, decide_true, decide_false, Bool.false_eq_true, List.getElem?_cons_zero, List.getElem?_cons_succ, Int.reduceEq, Option.map_some, Option.map_none]
  refine (alive_calls w).mono ?_
  rintro v w1 ⟨rfl, k1⟩
  obtain ⟨m, hm, hz⟩ : ∃ m : Nat, m ≤ 9223372036854775807 ∧ (m : Int) = if a < 0 then -(a + 1) else a := by
    refine ⟨(if a < 0 then -(a + 1) else a).toNat, ?_, ?_⟩ <;> split <;> omega
  have z1 : zig (m : Int) = 2 * m := by unfold zig; rw [if_pos (by omega)]; omega
  have z2 : zig (-(m : Int) - 1) = 2 * m + 1 := by unfold zig; rw [if_neg (by omega)]; omega
  have e5 : IntKind.i64.wrap (0 - (m : Int)) = -(m : Int) := by rw [i64_w, w64_id (by omega) (by omega)]; omega
  have e6 : IntKind.i64.wrap (-(m : Int) - 1) = -(m : Int) - 1 := by rw [i64_w, w64_id (by omega) (by omega)]
  by_cases hn : a < 0
  case' pos =>
    rw [if_pos hn] at hz
    have e1 : IntKind.i64.wrap (a + 1) = a + 1 := by rw [i64_w, w64_id (by omega) (by omega)]
    have e2 : IntKind.i64.wrap (0 - (a + 1)) = (m : Int) := by rw [i64_w, w64_id (by omega) (by omega)]; omega
    simp -implicitDefEqProofs only [go_sem, ↓reduceIte, Nat.reduceEqDiff, Int.reduceLT, not_false_eq_true, List.map_toArray, List.map_cons, List.map_nil, Option.isSome_some, Nat.reduceLT, Int.reduceToNat, Int.reducePow, Nat.reduceAdd, Int.toNat_natCast, Bool.not_true, Bool.not_false, Nat.mul_one, decide_true, decide_false, Bool.false_eq_true, List.getElem?_cons_zero, List.getElem?_cons_succ, Int.reduceEq, Option.map_some, Option.map_none, hn, e1, e2]
  case' neg =>
    rw [if_neg hn] at hz
    subst hz
    simp -implicitDefEqProofs only [go_sem, ↓reduceIte, Nat.reduceEqDiff, Int.reduceLT, not_false_eq_true, List.map_toArray, List.map_cons, List.map_nil, Option.isSome_some, Nat.reduceLT, Int.reduceToNat, Int.reducePow, Nat.reduceAdd, Int.toNat_natCast, Bool.not_true, Bool.not_false, Nat.mul_one, decide_true, decide_false, Bool.false_eq_true, List.getElem?_cons_zero, List.getElem?_cons_succ, Int.reduceEq, Option.map_some, Option.map_none, hn]
  all_goals
    refine (putInt_calls (a := (m : Int)) (by omega) (by omega) _).mono ?_
    rintro v w2 ⟨o2, k2⟩
    rw [z1] at o2
    obtain ⟨A2, c2, rfl, hc2, r2⟩ := o2.slice
    simp -implicitDefEqProofs only [go_sem, ↓reduceIte, Nat.reduceEqDiff, Int.reduceLT, not_false_eq_true, List.map_toArray, List.map_cons, List.map_nil, Option.isSome_some, Nat.reduceLT, Int.reduceToNat, Int.reducePow, Nat.reduceAdd, Int.toNat_natCast, Bool.not_true, Bool.not_false, Nat.mul_one, decide_true, decide_false, Bool.false_eq_true, List.getElem?_cons_zero, List.getElem?_cons_succ, Int.reduceEq, Option.map_some, Option.map_none, hn, e5, e6]
    refine (putInt_calls (a := -(m : Int) - 1) (by omega) (by omega) _).mono ?_
    rintro v w3 ⟨o3, k3⟩
    rw [z2] at o3
    obtain ⟨A3, c3, rfl, hc3, r3⟩ := o3.slice
    have r2' := r2.fx k3 (fun _ _ h => h)
    obtain ⟨_, pl, pd⟩ := put_xor m
    obtain ⟨j, f1, f2⟩ := put_first m
    have px := xor_pair j
    obtain ⟨ad2, rfl, hc2'⟩ := r2' 0 _ f1
    obtain ⟨ad3, rfl, hc3'⟩ := r3 0 _ f2
    have p0 := vput_pos (2 * m)
    have hp := vput_bs (2 * m)
    generalize hx : vput (2 * m) = x at *
    generalize hy : vput (2 * m + 1) = y at *
    have zl : ((x.length : Int) == (y.length : Int)) = true := by rw [beq_iff_eq, pl]
    have l2 : (0 : Int) < (x.length : Int) := by omega
    have l3 : (0 : Int) < (y.length : Int) := by omega
    simp -implicitDefEqProofs only [go_sem, ↓reduceIte, Nat.reduceEqDiff, Int.reduceLT, not_false_eq_true, List.map_toArray, List.map_cons, List.map_nil, Option.isSome_some, Nat.reduceLT, Int.reduceToNat, Int.reducePow, Nat.reduceAdd, Int.toNat_natCast, Bool.not_true, Bool.not_false, Nat.mul_one, decide_true, decide_false, Bool.false_eq_true, List.getElem?_cons_zero, List.getElem?_cons_succ, Int.reduceEq, Option.map_some, Option.map_none, zl, l2, l3, Int.reduceLE, Nat.zero_mul, add_zero']
    rw [add_zero'] at hc2' hc3'
    have d2 : w3.drew.cell? ad2 = some (.int .u8 ((2 * j.1 : Nat) : Int)) := hc2'
    have d3 : w3.drew.cell? ad3 = some (.int .u8 ((2 * j.1 + 1 : Nat) : Int)) := hc3'
    refine seg_intro (fun w' => w'.cell? ad2 = some (.int .u8 ((2 * j.1 : Nat) : Int))) d2 ?_
    simp -implicitDefEqProofs only [go_sem, ↓reduceIte, Nat.reduceEqDiff, Int.reduceLT, not_false_eq_true, List.map_toArray, List.map_cons, List.map_nil, Option.isSome_some, Nat.reduceLT, Int.reduceToNat, Int.reducePow, Nat.reduceAdd, Int.toNat_natCast, Bool.not_true, Bool.not_false, Nat.mul_one, decide_true, decide_false, Bool.false_eq_true, List.getElem?_cons_zero, List.getElem?_cons_succ, Int.reduceEq, Option.map_some, Option.map_none]
    refine hld_intro (.int .u8 ((2 * j.1 : Nat) : Int)) d2 (fun w' hw' => ?_) ?_
    · simp -implicitDefEqProofs only [go_sem, ↓reduceIte, Nat.reduceEqDiff, Int.reduceLT, not_false_eq_true, List.map_toArray, List.map_cons, List.map_nil, Option.isSome_some, Nat.reduceLT, Int.reduceToNat, Int.reducePow, Nat.reduceAdd, Int.toNat_natCast, Bool.not_true, Bool.not_false, Nat.mul_one, decide_true, decide_false, Bool.false_eq_true, List.getElem?_cons_zero, List.getElem?_cons_succ, Int.reduceEq, Option.map_some, Option.map_none, hw']
      exact ⟨trivial, trivial⟩
    simp -implicitDefEqProofs only [go_sem, ↓reduceIte, Nat.reduceEqDiff, Int.reduceLT, not_false_eq_true, List.map_toArray, List.map_cons, List.map_nil, Option.isSome_some, Nat.reduceLT, Int.reduceToNat, Int.reducePow, Nat.reduceAdd, Int.toNat_natCast, Bool.not_true, Bool.not_false, Nat.mul_one, decide_true, decide_false, Bool.false_eq_true, List.getElem?_cons_zero, List.getElem?_cons_succ, Int.reduceEq, Option.map_some, Option.map_none, d3]
    refine goE_intro d2 ?_
    have s1 : (1 : Int) ≤ (x.length : Int) := by omega
    have s2 : (1 : Int) ≤ (y.length : Int) := by omega
    have z1 : ((1 : Int) == 1) = true := rfl
    simp -implicitDefEqProofs only [go_sem, ↓reduceIte, Nat.reduceEqDiff, Int.reduceLT, not_false_eq_true, List.map_toArray, List.map_cons, List.map_nil, Option.isSome_some, Nat.reduceLT, Int.reduceToNat, Int.reducePow, Nat.reduceAdd, Int.toNat_natCast, Bool.not_true, Bool.not_false, Nat.mul_one, decide_true, decide_false, Bool.false_eq_true, List.getElem?_cons_zero, List.getElem?_cons_succ, Int.reduceEq, Option.map_some, Option.map_none, px, beq_self_eq_true, s1, s2, hc2, hc3, Int.reduceLE, Nat.reduceLeDiff, z1]
    have q2 : RdI w3.drew .u8 (cutA (some ad2) 1 c2 1) (x.drop 1) := RdI.cut (w := w3) r2' 1 c2 hc2
    have q3 : RdI w3.drew .u8 (cutA (some ad3) 1 c3 1) (y.drop 1) := RdI.cut (w := w3) r3 1 c3 hc3
    refine seg_intro (fun w' => RdI w' .u8 (cutA (some ad2) 1 c2 1) (x.drop 1)) q2 ?_
    simp -implicitDefEqProofs only [go_sem, ↓reduceIte, Nat.reduceEqDiff, Int.reduceLT, not_false_eq_true, List.map_toArray, List.map_cons, List.map_nil, Option.isSome_some, Nat.reduceLT, Int.reduceToNat, Int.reducePow, Nat.reduceAdd, Int.toNat_natCast, Bool.not_true, Bool.not_false, Nat.mul_one, decide_true, decide_false, Bool.false_eq_true, List.getElem?_cons_zero, List.getElem?_cons_succ, Int.reduceEq, Option.map_some, Option.map_none]
    refine hld_intro (.string (strOfNums (x.drop 1))) q2 (fun w' hw' => ?_) ?_
    · simp -implicitDefEqProofs only [go_sem, ↓reduceIte, Nat.reduceEqDiff, Int.reduceLT, not_false_eq_true, List.map_toArray, List.map_cons, List.map_nil, Option.isSome_some, Nat.reduceLT, Int.reduceToNat, Int.reducePow, Nat.reduceAdd, Int.toNat_natCast, Bool.not_true, Bool.not_false, Nat.mul_one, decide_true, decide_false, Bool.false_eq_true, List.getElem?_cons_zero, List.getElem?_cons_succ, Int.reduceEq, Option.map_some, Option.map_none]
      exact cv_bytesN bs8 (by simp) hw' ⟨rfl, rfl⟩
    simp -implicitDefEqProofs only [go_sem, ↓reduceIte, Nat.reduceEqDiff, Int.reduceLT, not_false_eq_true, List.map_toArray, List.map_cons, List.map_nil, Option.isSome_some, Nat.reduceLT, Int.reduceToNat, Int.reducePow, Nat.reduceAdd, Int.toNat_natCast, Bool.not_true, Bool.not_false, Nat.mul_one, decide_true, decide_false, Bool.false_eq_true, List.getElem?_cons_zero, List.getElem?_cons_succ, Int.reduceEq, Option.map_some, Option.map_none]
    refine cv_bytesN bs8 (xs := y.drop 1) (by simp) q3 ?_
    refine goE_intro q2 ?_
    simp -implicitDefEqProofs only [go_sem, ↓reduceIte, Nat.reduceEqDiff, Int.reduceLT, not_false_eq_true, List.map_toArray, List.map_cons, List.map_nil, Option.isSome_some, Nat.reduceLT, Int.reduceToNat, Int.reducePow, Nat.reduceAdd, Int.toNat_natCast, Bool.not_true, Bool.not_false, Nat.mul_one, decide_true, decide_false, Bool.false_eq_true, List.getElem?_cons_zero, List.getElem?_cons_succ, Int.reduceEq, Option.map_some, Option.map_none, pd, beq_self_eq_true]
    exact ⟨trivial, ((k1.trans k2 (fun _ _ h => h)).trans k3 (fun _ _ h => h)).trans (Fx.drew _ w3) (fun _ _ h => h)⟩

theorem puts_walk {n : Nat} (hn : n < 18446744073709551616) {w : World} : callK Try.prog 3 #[.int .u64 n] w fun v w' => v = .bool true ∧ Keep w w' := by
  refine callK_of Try.func3 c3 r3 (by exact Nat.le_of_ble_eq_true rfl) ?_
  rw [m3]
  simp -implicitDefEqProofs only [go_sem, ↓reduceIte, Nat.reduceEqDiff, Int.reduceLT, not_false_eq_true, List.map_toArray, List.map_cons, List.map_nil, Option.isSome_some, Nat.reduceLT, Int.reduceToNat, Int.reducePow, Nat.reduceAdd, Int.toNat_natCast, Bool.not_true, Bool.not_false, Nat.mul_one, decide_true, decide_false, Bool.false_eq_true, List.getElem?_cons_zero, List.getElem?_cons_succ, Int.reduceEq, Option.map_some, Option.map_none]
  have k0 : Keep w w.drew := Fx.drew _ w
  refine (alive_calls _).mono ?_
  rintro v w1 ⟨rfl, k1⟩
  simp -implicitDefEqProofs only [go_sem, ↓reduceIte, Nat.reduceEqDiff, Int.reduceLT, not_false_eq_true, List.map_toArray, List.map_cons, List.map_nil, Option.isSome_some, Nat.reduceLT, Int.reduceToNat, Int.reducePow, Nat.reduceAdd, Int.toNat_natCast, Bool.not_true, Bool.not_false, Nat.mul_one, decide_true, decide_false, Bool.false_eq_true, List.getElem?_cons_zero, List.getElem?_cons_succ, Int.reduceEq, Option.map_some, Option.map_none]
  refine (put_calls hn _).mono ?_
  rintro v w2 ⟨o2, k2⟩
  obtain ⟨A2, c2, rfl, hc2, r2⟩ := o2.slice
  simp -implicitDefEqProofs only [go_sem, ↓reduceIte, Nat.reduceEqDiff, Int.reduceLT, not_false_eq_true, List.map_toArray, List.map_cons, List.map_nil, Option.isSome_some, Nat.reduceLT, Int.reduceToNat, Int.reducePow, Nat.reduceAdd, Int.toNat_natCast, Bool.not_true, Bool.not_false, Nat.mul_one, decide_true, decide_false, Bool.false_eq_true, List.getElem?_cons_zero, List.getElem?_cons_succ, Int.reduceEq, Option.map_some, Option.map_none]
  refine seg_intro (fun w' => RdI w' .u8 A2 (vput n)) r2 ?_
  simp -implicitDefEqProofs only [go_sem, ↓reduceIte, Nat.reduceEqDiff, Int.reduceLT, not_false_eq_true, List.map_toArray, List.map_cons, List.map_nil, Option.isSome_some, Nat.reduceLT, Int.reduceToNat, Int.reducePow, Nat.reduceAdd, Int.toNat_natCast, Bool.not_true, Bool.not_false, Nat.mul_one, decide_true, decide_false, Bool.false_eq_true, List.getElem?_cons_zero, List.getElem?_cons_succ, Int.reduceEq, Option.map_some, Option.map_none]
  refine hld_intro (.string (strOfNums (vput n))) r2 (fun w' hw' => ?_) ?_
  · simp -implicitDefEqProofs only [go_sem, ↓reduceIte, Nat.reduceEqDiff, Int.reduceLT, not_false_eq_true, List.map_toArray, List.map_cons, List.map_nil, Option.isSome_some, Nat.reduceLT, Int.reduceToNat, Int.reducePow, Nat.reduceAdd, Int.toNat_natCast, Bool.not_true, Bool.not_false, Nat.mul_one, decide_true, decide_false, Bool.false_eq_true, List.getElem?_cons_zero, List.getElem?_cons_succ, Int.reduceEq, Option.map_some, Option.map_none]
    exact cv_bytes bs8 hw' ⟨rfl, rfl⟩
  simp -implicitDefEqProofs only [go_sem, ↓reduceIte, Nat.reduceEqDiff, Int.reduceLT, not_false_eq_true, List.map_toArray, List.map_cons, List.map_nil, Option.isSome_some, Nat.reduceLT, Int.reduceToNat, Int.reducePow, Nat.reduceAdd, Int.toNat_natCast, Bool.not_true, Bool.not_false, Nat.mul_one, decide_true, decide_false, Bool.false_eq_true, List.getElem?_cons_zero, List.getElem?_cons_succ, Int.reduceEq, Option.map_some, Option.map_none]
  refine (refPut_calls n hn _).mono ?_
  rintro v w3 ⟨o3, k3⟩
  obtain ⟨A3, c3, rfl, hc3, r3⟩ := o3.slice
  refine goE_intro (r2.fx k3 (fun _ _ h => h)) ?_
  simp -implicitDefEqProofs only [go_sem, ↓reduceIte, Nat.reduceEqDiff, Int.reduceLT, not_false_eq_true, List.map_toArray, List.map_cons, List.map_nil, Option.isSome_some, Nat.reduceLT, Int.reduceToNat, Int.reducePow, Nat.reduceAdd, Int.toNat_natCast, Bool.not_true, Bool.not_false, Nat.mul_one, decide_true, decide_false, Bool.false_eq_true, List.getElem?_cons_zero, List.getElem?_cons_succ, Int.reduceEq, Option.map_some, Option.map_none]
  refine cv_bytes bs8 r3 ?_
  refine goE_intro (r2.fx k3 (fun _ _ h => h)) ?_
  obtain ⟨a, ha, h0, h1⟩ : ∃ a, IntKind.i64.wrap (n : Int) = a ∧ -9223372036854775808 ≤ a ∧ a ≤ 9223372036854775807 := ⟨_, rfl, by rw [i64_w]; unfold wrap64; omega, by rw [i64_w]; unfold wrap64; omega⟩
  simp -implicitDefEqProofs only [go_sem, ↓reduceIte, Nat.reduceEqDiff, Int.reduceLT, not_false_eq_true, List.map_toArray, List.map_cons, List.map_nil, Option.isSome_some, Nat.reduceLT, Int.reduceToNat, Int.reducePow, Nat.reduceAdd, Int.toNat_natCast, Bool.not_true, Bool.not_false, Nat.mul_one, decide_true, decide_false, Bool.false_eq_true, List.getElem?_cons_zero, List.getElem?_cons_succ, Int.reduceEq, Option.map_some, Option.map_none, beq_self_eq_true, ha]
  refine (putInt_calls h0 h1 _).mono ?_
  rintro v w4 ⟨o4, k4⟩
  obtain ⟨A4, c4, rfl, hc4, r4⟩ := o4.slice
  simp -implicitDefEqProofs only [go_sem, ↓reduceIte, Nat.reduceEqDiff, Int.reduceLT, not_false_eq_true, List.map_toArray, List.map_cons, List.map_nil, Option.isSome_some, Nat.reduceLT, Int.reduceToNat, Int.reducePow, Nat.reduceAdd, Int.toNat_natCast, Bool.not_true, Bool.not_false, Nat.mul_one, decide_true, decide_false, Bool.false_eq_true, List.getElem?_cons_zero, List.getElem?_cons_succ, Int.reduceEq, Option.map_some, Option.map_none]
  refine seg_intro (fun w' => RdI w' .u8 A4 (vput (zig a))) r4 ?_
  simp -implicitDefEqProofs only [go_sem, ↓reduceIte, Nat.reduceEqDiff, Int.reduceLT, not_false_eq_true, List.map_toArray, List.map_cons, List.map_nil, Option.isSome_some, Nat.reduceLT, Int.reduceToNat, Int.reducePow, Nat.reduceAdd, Int.toNat_natCast, Bool.not_true, Bool.not_false, Nat.mul_one, decide_true, decide_false, Bool.false_eq_true, List.getElem?_cons_zero, List.getElem?_cons_succ, Int.reduceEq, Option.map_some, Option.map_none]
  refine hld_intro (.string (strOfNums (vput (zig a)))) r4 (fun w' hw' => ?_) ?_
  · simp -implicitDefEqProofs only [go_sem, ↓reduceIte, Nat.reduceEqDiff, Int.reduceLT, not_false_eq_true, List.map_toArray, List.map_cons, List.map_nil, Option.isSome_some, Nat.reduceLT, Int.reduceToNat, Int.reducePow, Nat.reduceAdd, Int.toNat_natCast, Bool.not_true, Bool.not_false, Nat.mul_one, decide_true, decide_false, Bool.false_eq_true, List.getElem?_cons_zero, List.getElem?_cons_succ, Int.reduceEq, Option.map_some, Option.map_none]
    exact cv_bytes bs8 hw' ⟨rfl, rfl⟩
  simp -implicitDefEqProofs only [go_sem, ↓reduceIte, Nat.reduceEqDiff, Int.reduceLT, not_false_eq_true, List.map_toArray, List.map_cons, List.map_nil, Option.isSome_some, Nat.reduceLT, Int.reduceToNat, Int.reducePow, Nat.reduceAdd, Int.toNat_natCast, Bool.not_true, Bool.not_false, Nat.mul_one, decide_true, decide_false, Bool.false_eq_true, List.getElem?_cons_zero, List.getElem?_cons_succ, Int.reduceEq, Option.map_some, Option.map_none]
  refine (refPutInt_calls h0 h1 _).mono ?_
  rintro v w5 ⟨o5, k5⟩
  obtain ⟨A5, c5, rfl, hc5, r5⟩ := o5.slice
  refine goE_intro (r4.fx k5 (fun _ _ h => h)) ?_
  simp -implicitDefEqProofs only [go_sem, ↓reduceIte, Nat.reduceEqDiff, Int.reduceLT, not_false_eq_true, List.map_toArray, List.map_cons, List.map_nil, Option.isSome_some, Nat.reduceLT, Int.reduceToNat, Int.reducePow, Nat.reduceAdd, Int.toNat_natCast, Bool.not_true, Bool.not_false, Nat.mul_one, decide_true, decide_false, Bool.false_eq_true, List.getElem?_cons_zero, List.getElem?_cons_succ, Int.reduceEq, Option.map_some, Option.map_none]
  refine cv_bytes bs8 r5 ?_
  refine goE_intro (r4.fx k5 (fun _ _ h => h)) ?_
  simp -implicitDefEqProofs only [go_sem, ↓reduceIte, Nat.reduceEqDiff, Int.reduceLT, not_false_eq_true, List.map_toArray, List.map_cons, List.map_nil, Option.isSome_some, Nat.reduceLT, Int.reduceToNat, Int.reducePow, Nat.reduceAdd, Int.toNat_natCast, Bool.not_true, Bool.not_false, Nat.mul_one, decide_true, decide_false, Bool.false_eq_true, List.getElem?_cons_zero, List.getElem?_cons_succ, Int.reduceEq, Option.map_some, Option.map_none, beq_self_eq_true]
  exact ⟨trivial, ((((k0.trans k1 (fun _ _ h => h)).trans k2 (fun _ _ h => h)).trans k3 (fun _ _ h => h)).trans k4 (fun _ _ h => h)).trans k5 (fun _ _ h => h)⟩
end Go.Proofs.Ytoaihmfaecfakaa.F
