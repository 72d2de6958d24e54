/- The table is made; the flag is stored and looked at. Conditions: the Summer's block may be written. -/
import Derived.Test.YtkndmcaeppajmaaCbits
import Derived.Laws.LoneSync
namespace Go.Proofs.Ytkndmcaeppajmaa.F
open Go.RowKit Go.Proofs.Ytkndmcaeppajmaa.M Go.Proofs.Ytkndmcaeppajmaa.V
set_option linter.unusedSimpArgs false
set_option linter.unusedVariables false
set_option maxRecDepth 20000

/-- A Summer's cells: done, the lock's state, its waiters, made, the table. -/
def sumL (d st sm mk : Int) (tab : List Int) : List Value := .int .u32 d :: .int .i32 st :: .int .u32 sm :: .int .u32 mk :: tab.map (Value.int .u32)
def sumC (d st sm mk : Int) (tab : List Int) : Array Value := (sumL d st sm mk tab).toArray
abbrev At (g : Nat) (i : Nat) : Addr := ⟨g, i, none⟩
abbrev only (g : Nat) : Nat → Prop := fun k => k = g
theorem add_off (g o i : Nat) : (⟨g, o, none⟩ : Addr).add i = ⟨g, o + i, none⟩ := by unfold Addr.add; split <;> simp_all

section
variable {w : World} {g d' : Nat} {d st sm mk : Int} {tab : List Int}
theorem sum_at (h : Blk w g 50 (sumC d st sm mk tab)) (i : Nat) : w.cell? (At g i) = (sumL d st sm mk tab)[i]? := by rw [h.cell]; simp [sumC]
theorem sum_tab (h : Blk w g 50 (sumC d st sm mk tab)) {i : Nat} {x : Int} (hx : tab[i]? = some x) : w.cell? (At g (4 + i)) = some (.int .u32 x) := by
  rw [sum_at h, show 4 + i = i + 4 by omega]
  simp [sumL, hx]
theorem set_tab (d st sm mk : Int) (tab : List Int) (i : Nat) (x : Int) : (sumC d st sm mk tab).setIfInBounds (4 + i) (.int .u32 x) = sumC d st sm mk (tab.set i x) := by
  rw [show 4 + i = i + 4 by omega]
  simp [sumC, sumL, List.map_set]
theorem set_done (d st sm mk x : Int) (tab : List Int) : (sumC d st sm mk tab).setIfInBounds 0 (.int .u32 x) = sumC x st sm mk tab := by simp [sumC, sumL]
theorem set_lock (d st sm mk x : Int) (tab : List Int) : (sumC d st sm mk tab).setIfInBounds 1 (.int .i32 x) = sumC d x sm mk tab := by simp [sumC, sumL]
theorem set_made (d st sm mk x : Int) (tab : List Int) : (sumC d st sm mk tab).setIfInBounds 3 (.int .u32 x) = sumC d st sm x tab := by simp [sumC, sumL]
end

def crcTab : List Int := (List.range 256).map fun i => wi (eight (BitVec.ofNat 32 i))
theorem crcTab_at {i : Nat} (h : i < 256) : crcTab[i]? = some (wi (eight (BitVec.ofNat 32 i))) := by simp [crcTab, h]

theorem b32_calls (w : World) : callK Try.prog 25 #[.bool true] w fun v w' => v = .int .u32 1 ∧ w' = w := by
  refine callK_of Try.func25 c25 r25 (by exact Nat.le_of_ble_eq_true rfl) ?_
  rw [m25]
  simp -implicitDefEqProofs only [go_sem, ↓reduceIte, Nat.reduceEqDiff, Int.reduceLT, not_false_eq_true, List.map_toArray, List.map_cons, List.map_nil, Option.isSome_some, Nat.reduceLT, Int.reduceToNat, Int.reducePow, Nat.reduceAdd, Int.toNat_natCast, Bool.not_true, Bool.not_false, Nat.mul_one, decide_true, decide_false, Bool.false_eq_true, List.getElem?_cons_zero, List.getElem?_cons_succ, Int.reduceEq, Option.map_some, Option.map_none]
  exact ⟨trivial, trivial⟩

theorem store_calls {a : Addr} {x : Value} {w : World} (hc : w.cell? a = some x) (hz : w.frozen? a = false) : callK Try.prog 20 #[.pointer (some a), .bool true] w fun v w' => v = .tuple #[] ∧ w' = w.drew.setCell a (.int .u32 1) := by
  refine callK_of Try.func20 c20 r20 (by exact Nat.le_of_ble_eq_true rfl) ?_
  rw [m20]
  simp -implicitDefEqProofs only [go_sem, ↓reduceIte, Nat.reduceEqDiff, Int.reduceLT, not_false_eq_true, List.map_toArray, List.map_cons, List.map_nil, Option.isSome_some, Nat.reduceLT, Int.reduceToNat, Int.reducePow, Nat.reduceAdd, Int.toNat_natCast, Bool.not_true, Bool.not_false, Nat.mul_one, decide_true, decide_false, Bool.false_eq_true, List.getElem?_cons_zero, List.getElem?_cons_succ, Int.reduceEq, Option.map_some, Option.map_none, add_zero']
  refine (b32_calls _).mono ?_
  rintro v w' ⟨rfl, rfl⟩
  simp -implicitDefEqProofs only [go_sem, ↓reduceIte, Nat.reduceEqDiff, Int.reduceLT, not_false_eq_true, List.map_toArray, List.map_cons, List.map_nil, Option.isSome_some, Nat.reduceLT, Int.reduceToNat, Int.reducePow, Nat.reduceAdd, Int.toNat_natCast, Bool.not_true, Bool.not_false, Nat.mul_one, decide_true, decide_false, Bool.false_eq_true, List.getElem?_cons_zero, List.getElem?_cons_succ, Int.reduceEq, Option.map_some, Option.map_none]
  refine ext_intro (by kernel_rfl) (run_call_store (P := Try.prog) Try.func24 (by kernel_rfl) (by kernel_rfl) (by kernel_rfl) (by kernel_rfl) (k := .u32) (y := 1) (u := x) hc hz) ?_
  simp -implicitDefEqProofs only [go_sem, ↓reduceIte, Nat.reduceEqDiff, Int.reduceLT, not_false_eq_true, List.map_toArray, List.map_cons, List.map_nil, Option.isSome_some, Nat.reduceLT, Int.reduceToNat, Int.reducePow, Nat.reduceAdd, Int.toNat_natCast, Bool.not_true, Bool.not_false, Nat.mul_one, decide_true, decide_false, Bool.false_eq_true, List.getElem?_cons_zero, List.getElem?_cons_succ, Int.reduceEq, Option.map_some, Option.map_none]
  exact ⟨trivial, trivial⟩

theorem load_calls {a : Addr} {x : Int} {w : World} (hc : w.cell? a = some (.int .u32 x)) : callK Try.prog 18 #[.pointer (some a)] w fun v w' => v = .bool (x != 0) ∧ w' = w := by
  refine callK_of Try.func18 c18 r18 (by exact Nat.le_of_ble_eq_true rfl) ?_
  rw [m18]
  simp -implicitDefEqProofs only [go_sem, ↓reduceIte, Nat.reduceEqDiff, Int.reduceLT, not_false_eq_true, List.map_toArray, List.map_cons, List.map_nil, Option.isSome_some, Nat.reduceLT, Int.reduceToNat, Int.reducePow, Nat.reduceAdd, Int.toNat_natCast, Bool.not_true, Bool.not_false, Nat.mul_one, decide_true, decide_false, Bool.false_eq_true, List.getElem?_cons_zero, List.getElem?_cons_succ, Int.reduceEq, Option.map_some, Option.map_none, add_zero']
  refine ext_intro (by kernel_rfl) (run_call_load (P := Try.prog) Try.func21 (by kernel_rfl) (by kernel_rfl) (by kernel_rfl) .u32 (by kernel_rfl) hc) ?_
  simp -implicitDefEqProofs only [go_sem, ↓reduceIte, Nat.reduceEqDiff, Int.reduceLT, not_false_eq_true, List.map_toArray, List.map_cons, List.map_nil, Option.isSome_some, Nat.reduceLT, Int.reduceToNat, Int.reducePow, Nat.reduceAdd, Int.toNat_natCast, Bool.not_true, Bool.not_false, Nat.mul_one, decide_true, decide_false, Bool.false_eq_true, List.getElem?_cons_zero, List.getElem?_cons_succ, Int.reduceEq, Option.map_some, Option.map_none]
  exact ⟨trivial, trivial⟩

theorem made_calls {w : World} {g : Nat} {d st sm mk : Int} {tab : List Int} (h : Blk w g 50 (sumC d st sm mk tab)) : callK Try.prog 15 #[.pointer (some (At g 0))] w fun v w' => v = .bool (mk != 0) ∧ w' = w := by
  refine callK_of Try.func15 c15 r15 (by exact Nat.le_of_ble_eq_true rfl) ?_
  rw [m15]
  simp -implicitDefEqProofs only [go_sem, ↓reduceIte, Nat.reduceEqDiff, Int.reduceLT, not_false_eq_true, List.map_toArray, List.map_cons, List.map_nil, Option.isSome_some, Nat.reduceLT, Int.reduceToNat, Int.reducePow, Nat.reduceAdd, Int.toNat_natCast, Bool.not_true, Bool.not_false, Nat.mul_one, decide_true, decide_false, Bool.false_eq_true, List.getElem?_cons_zero, List.getElem?_cons_succ, Int.reduceEq, Option.map_some, Option.map_none]
  refine (load_calls (x := mk) (sum_at h 3)).mono ?_
  rintro v w' ⟨rfl, rfl⟩
  simp -implicitDefEqProofs only [go_sem, ↓reduceIte, Nat.reduceEqDiff, Int.reduceLT, not_false_eq_true, List.map_toArray, List.map_cons, List.map_nil, Option.isSome_some, Nat.reduceLT, Int.reduceToNat, Int.reducePow, Nat.reduceAdd, Int.toNat_natCast, Bool.not_true, Bool.not_false, Nat.mul_one, decide_true, decide_false, Bool.false_eq_true, List.getElem?_cons_zero, List.getElem?_cons_succ, Int.reduceEq, Option.map_some, Option.map_none]
  exact ⟨trivial, trivial⟩

theorem make_calls {w : World} {g : Nat} {d st sm mk : Int} {tab : List Int} (h : Blk w g 50 (sumC d st sm mk tab)) (ht : tab.length = 256) :
    callK Try.prog 17 #[.pointer (some (At g 0))] w fun v w' => v = .tuple #[] ∧ Blk w' g 50 (sumC d st sm 1 crcTab) ∧ Fx (only g) w w' := by
  refine callK_of Try.func17 c17 r17 (by exact Nat.le_of_ble_eq_true rfl) ?_
  rw [m17]
  simp -implicitDefEqProofs only [go_sem, ↓reduceIte, Nat.reduceEqDiff, Int.reduceLT, not_false_eq_true, List.map_toArray, List.map_cons, List.map_nil, Option.isSome_some, Nat.reduceLT, Int.reduceToNat, Int.reducePow, Nat.reduceAdd, Int.toNat_natCast, Bool.not_true, Bool.not_false, Nat.mul_one, decide_true, decide_false, Bool.false_eq_true, List.getElem?_cons_zero, List.getElem?_cons_succ, Int.reduceEq, Option.map_some, Option.map_none]
  refine loop_intro (fun k f w' => ∃ (i : Nat) (tab' : List Int), k = 256 - i ∧ i ≤ 256 ∧ f 0 = .pointer (some (At g 0)) ∧ f 4 = .int .i64 i ∧ tab'.length = 256 ∧ (∀ j, j < i → tab'[j]? = crcTab[j]?) ∧ Blk w' g 50 (sumC d st sm mk tab') ∧ Fx (only g) w w') 256
    ⟨0, tab, rfl, by omega, by simp -implicitDefEqProofs only [go_sem, ↓reduceIte, Nat.reduceEqDiff, Int.reduceLT, not_false_eq_true, List.map_toArray, List.map_cons, List.map_nil, Option.isSome_some, Nat.reduceLT, Int.reduceToNat, Int.reducePow, Nat.reduceAdd, Int.toNat_natCast, Bool.not_true, Bool.not_false, Nat.mul_one, decide_true, decide_false, Bool.false_eq_true, List.getElem?_cons_zero, List.getElem?_cons_succ, Int.reduceEq, Option.map_some, Option.map_none], by simp -implicitDefEqProofs only [go_sem, ↓reduceIte, Nat.reduceEqDiff, Int.reduceLT, not_false_eq_true, List.map_toArray, List.map_cons, List.map_nil, Option.isSome_some, Nat.reduceLT, Int.reduceToNat, Int.reducePow, Nat.reduceAdd, Int.toNat_natCast, Bool.not_true, Bool.not_false, Nat.mul_one, decide_true, decide_false, Bool.false_eq_true, List.getElem?_cons_zero, List.getElem?_cons_succ, Int.reduceEq, Option.map_some, Option.map_none]; rfl, ht, fun j hj => by omega, h, Fx.refl _ _⟩ ?_
  rintro k f w1 ⟨i, tab', rfl, hi, h0, h4, hlen, htab, hB, hF⟩
  by_cases hlt : i < 256
  · have i0 : (0 : Int) ≤ (i : Int) := by omega
    have i1 : (i : Int) < 256 := by omega
    have e0 : IntKind.u32.wrap (i : Int) = wi (BitVec.ofNat 32 i) := by
      rw [IntKind.wrap_u32, wi, BitVec.toNat_ofNat]; omega
    simp -implicitDefEqProofs only [go_sem, ↓reduceIte, Nat.reduceEqDiff, Int.reduceLT, not_false_eq_true, List.map_toArray, List.map_cons, List.map_nil, Option.isSome_some, Nat.reduceLT, Int.reduceToNat, Int.reducePow, Nat.reduceAdd, Int.toNat_natCast, Bool.not_true, Bool.not_false, Nat.mul_one, decide_true, decide_false, Bool.false_eq_true, List.getElem?_cons_zero, List.getElem?_cons_succ, Int.reduceEq, Option.map_some, Option.map_none, h0, h4, i1, e0]
    refine loop_intro (fun k f w' => ∃ j : Nat, k = 8 - j ∧ j ≤ 8 ∧ f 0 = .pointer (some (At g 0)) ∧ f 4 = .int .i64 i ∧ f 2 = .int .i64 i ∧ f 3 = .int .u32 (wi (ones j (BitVec.ofNat 32 i))) ∧ f 9 = .int .i64 j ∧ w' = w1) 8
      ⟨0, rfl, by omega, by simp -implicitDefEqProofs only [go_sem, ↓reduceIte, Nat.reduceEqDiff, Int.reduceLT, not_false_eq_true, List.map_toArray, List.map_cons, List.map_nil, Option.isSome_some, Nat.reduceLT, Int.reduceToNat, Int.reducePow, Nat.reduceAdd, Int.toNat_natCast, Bool.not_true, Bool.not_false, Nat.mul_one, decide_true, decide_false, Bool.false_eq_true, List.getElem?_cons_zero, List.getElem?_cons_succ, Int.reduceEq, Option.map_some, Option.map_none, h0], by simp -implicitDefEqProofs only [go_sem, ↓reduceIte, Nat.reduceEqDiff, Int.reduceLT, not_false_eq_true, List.map_toArray, List.map_cons, List.map_nil, Option.isSome_some, Nat.reduceLT, Int.reduceToNat, Int.reducePow, Nat.reduceAdd, Int.toNat_natCast, Bool.not_true, Bool.not_false, Nat.mul_one, decide_true, decide_false, Bool.false_eq_true, List.getElem?_cons_zero, List.getElem?_cons_succ, Int.reduceEq, Option.map_some, Option.map_none, h4], by simp -implicitDefEqProofs only [go_sem, ↓reduceIte, Nat.reduceEqDiff, Int.reduceLT, not_false_eq_true, List.map_toArray, List.map_cons, List.map_nil, Option.isSome_some, Nat.reduceLT, Int.reduceToNat, Int.reducePow, Nat.reduceAdd, Int.toNat_natCast, Bool.not_true, Bool.not_false, Nat.mul_one, decide_true, decide_false, Bool.false_eq_true, List.getElem?_cons_zero, List.getElem?_cons_succ, Int.reduceEq, Option.map_some, Option.map_none], by simp -implicitDefEqProofs only [go_sem, ↓reduceIte, Nat.reduceEqDiff, Int.reduceLT, not_false_eq_true, List.map_toArray, List.map_cons, List.map_nil, Option.isSome_some, Nat.reduceLT, Int.reduceToNat, Int.reducePow, Nat.reduceAdd, Int.toNat_natCast, Bool.not_true, Bool.not_false, Nat.mul_one, decide_true, decide_false, Bool.false_eq_true, List.getElem?_cons_zero, List.getElem?_cons_succ, Int.reduceEq, Option.map_some, Option.map_none]; rfl, by simp -implicitDefEqProofs only [go_sem, ↓reduceIte, Nat.reduceEqDiff, Int.reduceLT, not_false_eq_true, List.map_toArray, List.map_cons, List.map_nil, Option.isSome_some, Nat.reduceLT, Int.reduceToNat, Int.reducePow, Nat.reduceAdd, Int.toNat_natCast, Bool.not_true, Bool.not_false, Nat.mul_one, decide_true, decide_false, Bool.false_eq_true, List.getElem?_cons_zero, List.getElem?_cons_succ, Int.reduceEq, Option.map_some, Option.map_none]; rfl, rfl⟩ ?_
    rintro k f2 w2 ⟨j, rfl, hj, g0, g4, g2, g3, g9, rfl⟩
    by_cases h8 : j < 8
    · have j1 : (j : Int) < 8 := by omega
      have e3 : IntKind.i64.wrap ((j : Int) + 1) = ((j + 1 : Nat) : Int) := i64_nat (by omega) (by omega)
      have hs : ones (j + 1) (BitVec.ofNat 32 i) = one (ones j (BitVec.ofNat 32 i)) := rfl
      generalize ones j (BitVec.ofNat 32 i) = y at *
      have e4 := aone y
      have e5 := low_bit y
      have e6 := half y
      cases hb : y.getLsbD 0 with
      | true =>
        have e7 := xpoly (y >>> 1)
        have e8 := one_on hb
        rw [hb] at e5
        simp -implicitDefEqProofs only [go_sem, ↓reduceIte, Nat.reduceEqDiff, Int.reduceLT, not_false_eq_true, List.map_toArray, List.map_cons, List.map_nil, Option.isSome_some, Nat.reduceLT, Int.reduceToNat, Int.reducePow, Nat.reduceAdd, Int.toNat_natCast, Bool.not_true, Bool.not_false, Nat.mul_one, decide_true, decide_false, Bool.false_eq_true, List.getElem?_cons_zero, List.getElem?_cons_succ, Int.reduceEq, Option.map_some, Option.map_none, g0, g4, g2, g3, g9, j1, e4, e5, e6, e7, e3]
        refine ⟨8 - (j + 1), by omega, j + 1, rfl, by omega, by simp -implicitDefEqProofs only [go_sem, ↓reduceIte, Nat.reduceEqDiff, Int.reduceLT, not_false_eq_true, List.map_toArray, List.map_cons, List.map_nil, Option.isSome_some, Nat.reduceLT, Int.reduceToNat, Int.reducePow, Nat.reduceAdd, Int.toNat_natCast, Bool.not_true, Bool.not_false, Nat.mul_one, decide_true, decide_false, Bool.false_eq_true, List.getElem?_cons_zero, List.getElem?_cons_succ, Int.reduceEq, Option.map_some, Option.map_none, g0], by simp -implicitDefEqProofs only [go_sem, ↓reduceIte, Nat.reduceEqDiff, Int.reduceLT, not_false_eq_true, List.map_toArray, List.map_cons, List.map_nil, Option.isSome_some, Nat.reduceLT, Int.reduceToNat, Int.reducePow, Nat.reduceAdd, Int.toNat_natCast, Bool.not_true, Bool.not_false, Nat.mul_one, decide_true, decide_false, Bool.false_eq_true, List.getElem?_cons_zero, List.getElem?_cons_succ, Int.reduceEq, Option.map_some, Option.map_none, g4], by simp -implicitDefEqProofs only [go_sem, ↓reduceIte, Nat.reduceEqDiff, Int.reduceLT, not_false_eq_true, List.map_toArray, List.map_cons, List.map_nil, Option.isSome_some, Nat.reduceLT, Int.reduceToNat, Int.reducePow, Nat.reduceAdd, Int.toNat_natCast, Bool.not_true, Bool.not_false, Nat.mul_one, decide_true, decide_false, Bool.false_eq_true, List.getElem?_cons_zero, List.getElem?_cons_succ, Int.reduceEq, Option.map_some, Option.map_none, g2], ?_, by simp -implicitDefEqProofs only [go_sem, ↓reduceIte, Nat.reduceEqDiff, Int.reduceLT, not_false_eq_true, List.map_toArray, List.map_cons, List.map_nil, Option.isSome_some, Nat.reduceLT, Int.reduceToNat, Int.reducePow, Nat.reduceAdd, Int.toNat_natCast, Bool.not_true, Bool.not_false, Nat.mul_one, decide_true, decide_false, Bool.false_eq_true, List.getElem?_cons_zero, List.getElem?_cons_succ, Int.reduceEq, Option.map_some, Option.map_none], rfl⟩
        rw [hs, e8]; simp -implicitDefEqProofs only [go_sem, ↓reduceIte, Nat.reduceEqDiff, Int.reduceLT, not_false_eq_true, List.map_toArray, List.map_cons, List.map_nil, Option.isSome_some, Nat.reduceLT, Int.reduceToNat, Int.reducePow, Nat.reduceAdd, Int.toNat_natCast, Bool.not_true, Bool.not_false, Nat.mul_one, decide_true, decide_false, Bool.false_eq_true, List.getElem?_cons_zero, List.getElem?_cons_succ, Int.reduceEq, Option.map_some, Option.map_none, e6, e7]
      | false =>
        have e8 := one_off hb
        rw [hb] at e5
        simp -implicitDefEqProofs only [go_sem, ↓reduceIte, Nat.reduceEqDiff, Int.reduceLT, not_false_eq_true, List.map_toArray, List.map_cons, List.map_nil, Option.isSome_some, Nat.reduceLT, Int.reduceToNat, Int.reducePow, Nat.reduceAdd, Int.toNat_natCast, Bool.not_true, Bool.not_false, Nat.mul_one, decide_true, decide_false, Bool.false_eq_true, List.getElem?_cons_zero, List.getElem?_cons_succ, Int.reduceEq, Option.map_some, Option.map_none, g0, g4, g2, g3, g9, j1, e4, e5, e6, e3]
        refine ⟨8 - (j + 1), by omega, j + 1, rfl, by omega, by simp -implicitDefEqProofs only [go_sem, ↓reduceIte, Nat.reduceEqDiff, Int.reduceLT, not_false_eq_true, List.map_toArray, List.map_cons, List.map_nil, Option.isSome_some, Nat.reduceLT, Int.reduceToNat, Int.reducePow, Nat.reduceAdd, Int.toNat_natCast, Bool.not_true, Bool.not_false, Nat.mul_one, decide_true, decide_false, Bool.false_eq_true, List.getElem?_cons_zero, List.getElem?_cons_succ, Int.reduceEq, Option.map_some, Option.map_none, g0], by simp -implicitDefEqProofs only [go_sem, ↓reduceIte, Nat.reduceEqDiff, Int.reduceLT, not_false_eq_true, List.map_toArray, List.map_cons, List.map_nil, Option.isSome_some, Nat.reduceLT, Int.reduceToNat, Int.reducePow, Nat.reduceAdd, Int.toNat_natCast, Bool.not_true, Bool.not_false, Nat.mul_one, decide_true, decide_false, Bool.false_eq_true, List.getElem?_cons_zero, List.getElem?_cons_succ, Int.reduceEq, Option.map_some, Option.map_none, g4], by simp -implicitDefEqProofs only [go_sem, ↓reduceIte, Nat.reduceEqDiff, Int.reduceLT, not_false_eq_true, List.map_toArray, List.map_cons, List.map_nil, Option.isSome_some, Nat.reduceLT, Int.reduceToNat, Int.reducePow, Nat.reduceAdd, Int.toNat_natCast, Bool.not_true, Bool.not_false, Nat.mul_one, decide_true, decide_false, Bool.false_eq_true, List.getElem?_cons_zero, List.getElem?_cons_succ, Int.reduceEq, Option.map_some, Option.map_none, g2], ?_, by simp -implicitDefEqProofs only [go_sem, ↓reduceIte, Nat.reduceEqDiff, Int.reduceLT, not_false_eq_true, List.map_toArray, List.map_cons, List.map_nil, Option.isSome_some, Nat.reduceLT, Int.reduceToNat, Int.reducePow, Nat.reduceAdd, Int.toNat_natCast, Bool.not_true, Bool.not_false, Nat.mul_one, decide_true, decide_false, Bool.false_eq_true, List.getElem?_cons_zero, List.getElem?_cons_succ, Int.reduceEq, Option.map_some, Option.map_none], rfl⟩
        rw [hs, e8]; simp -implicitDefEqProofs only [go_sem, ↓reduceIte, Nat.reduceEqDiff, Int.reduceLT, not_false_eq_true, List.map_toArray, List.map_cons, List.map_nil, Option.isSome_some, Nat.reduceLT, Int.reduceToNat, Int.reducePow, Nat.reduceAdd, Int.toNat_natCast, Bool.not_true, Bool.not_false, Nat.mul_one, decide_true, decide_false, Bool.false_eq_true, List.getElem?_cons_zero, List.getElem?_cons_succ, Int.reduceEq, Option.map_some, Option.map_none, e6]
    · have hj8 : j = 8 := by omega
      have j1 : ¬ (j : Int) < 8 := by omega
      have e3 : IntKind.i64.wrap ((i : Int) + 1) = ((i + 1 : Nat) : Int) := i64_nat (by omega) (by omega)
      rw [hj8, ones8] at g3
      have hcell : w2.cell? (At g (4 + i)) = some (.int .u32 (tab'[i]'(by omega))) := sum_tab hB (List.getElem?_eq_getElem (by omega))
      have hsome : (w2.cell? (At g (4 + i))).isSome = true := by rw [hcell]; rfl
      have hfz : w2.frozen? (At g (4 + i)) = false := hB.frozen _
      simp -implicitDefEqProofs only [go_sem, ↓reduceIte, Nat.reduceEqDiff, Int.reduceLT, not_false_eq_true, List.map_toArray, List.map_cons, List.map_nil, Option.isSome_some, Nat.reduceLT, Int.reduceToNat, Int.reducePow, Nat.reduceAdd, Int.toNat_natCast, Bool.not_true, Bool.not_false, Nat.mul_one, decide_true, decide_false, Bool.false_eq_true, List.getElem?_cons_zero, List.getElem?_cons_succ, Int.reduceEq, Option.map_some, Option.map_none, g0, g4, g2, g3, g9, j1, e3, i0, i1, add_off, hsome, hfz]
      refine ⟨256 - (i + 1), by omega, i + 1, tab'.set i (wi (eight (BitVec.ofNat 32 i))), rfl, by omega, by simp -implicitDefEqProofs only [go_sem, ↓reduceIte, Nat.reduceEqDiff, Int.reduceLT, not_false_eq_true, List.map_toArray, List.map_cons, List.map_nil, Option.isSome_some, Nat.reduceLT, Int.reduceToNat, Int.reducePow, Nat.reduceAdd, Int.toNat_natCast, Bool.not_true, Bool.not_false, Nat.mul_one, decide_true, decide_false, Bool.false_eq_true, List.getElem?_cons_zero, List.getElem?_cons_succ, Int.reduceEq, Option.map_some, Option.map_none, g0], by simp -implicitDefEqProofs only [go_sem, ↓reduceIte, Nat.reduceEqDiff, Int.reduceLT, not_false_eq_true, List.map_toArray, List.map_cons, List.map_nil, Option.isSome_some, Nat.reduceLT, Int.reduceToNat, Int.reducePow, Nat.reduceAdd, Int.toNat_natCast, Bool.not_true, Bool.not_false, Nat.mul_one, decide_true, decide_false, Bool.false_eq_true, List.getElem?_cons_zero, List.getElem?_cons_succ, Int.reduceEq, Option.map_some, Option.map_none], by simp [hlen], ?_, ?_, hF.trans (Fx.set (m := only g) w2 (At g (4 + i)) _ rfl) (fun _ _ h => h)⟩
      · intro j' hj'
        by_cases hjj : j' = i
        · subst hjj
          rw [List.getElem?_set_self (by omega), crcTab_at hlt]
        · rw [List.getElem?_set_ne (Ne.symm hjj), htab j' (by omega)]
      · rw [← set_tab]
        exact hB.set _ _
  · have hi' : i = 256 := by omega
    have i1 : ¬ (i : Int) < 256 := by omega
    have htt : tab' = crcTab := by
      refine List.ext_getElem? fun j => ?_
      by_cases hj : j < 256
      · exact htab j (by omega)
      · rw [List.getElem?_eq_none (by omega), List.getElem?_eq_none (by simp [crcTab]; omega)]
    subst htt
    simp -implicitDefEqProofs only [go_sem, ↓reduceIte, Nat.reduceEqDiff, Int.reduceLT, not_false_eq_true, List.map_toArray, List.map_cons, List.map_nil, Option.isSome_some, Nat.reduceLT, Int.reduceToNat, Int.reducePow, Nat.reduceAdd, Int.toNat_natCast, Bool.not_true, Bool.not_false, Nat.mul_one, decide_true, decide_false, Bool.false_eq_true, List.getElem?_cons_zero, List.getElem?_cons_succ, Int.reduceEq, Option.map_some, Option.map_none, h0, h4, i1]
    refine (store_calls (x := .int .u32 mk) (sum_at hB 3) (hB.frozen 3)).mono ?_
    rintro v w' ⟨rfl, rfl⟩
    simp -implicitDefEqProofs only [go_sem, ↓reduceIte, Nat.reduceEqDiff, Int.reduceLT, not_false_eq_true, List.map_toArray, List.map_cons, List.map_nil, Option.isSome_some, Nat.reduceLT, Int.reduceToNat, Int.reducePow, Nat.reduceAdd, Int.toNat_natCast, Bool.not_true, Bool.not_false, Nat.mul_one, decide_true, decide_false, Bool.false_eq_true, List.getElem?_cons_zero, List.getElem?_cons_succ, Int.reduceEq, Option.map_some, Option.map_none]
    refine ⟨trivial, ?_, (hF.trans (Fx.drew _ w1) (fun _ _ h => h)).trans (Fx.set (m := only g) w1.drew (At g 3) _ rfl) (fun _ _ h => h)⟩
    rw [← set_made d st sm mk 1 crcTab]
    exact (Blk.drew hB).set 3 _
end Go.Proofs.Ytkndmcaeppajmaa.F
