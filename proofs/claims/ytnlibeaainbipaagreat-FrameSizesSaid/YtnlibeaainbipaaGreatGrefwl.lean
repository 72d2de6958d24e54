/- The document's writer of items and hits. Conditions: the data lies in blocks that stand before. -/
import Derived.Test.YtnlibeaainbipaaGreatGrefw
import Derived.Test.YtnlibeaainbipaaGreatGwfield
import Derived.Test.YtnlibeaainbipaaGreatMfnp
namespace Go.Proofs.YtnlibeaainbipaaGreat.F
open Go.RowKit Go.Proofs.YtnlibeaainbipaaGreat.M Go.Proofs.YtnlibeaainbipaaGreat.V
open Nat (reduceEqDiff reduceAdd reduceLeDiff)
open Int (reduceToNat reducePow reduceEq reduceLE)
set_option linter.unusedSimpArgs false
set_option linter.unusedVariables false
set_option maxRecDepth 20000
section
variable {w : World} {lo : Nat} {v : Value} {xs : List Int}
theorem refitems_calls {U : Nat → Prop} {A : Option Addr} {c : Nat} {l : List MItem} (hl : l.length ≤ 9223372036854775807) (he : Elems kItem U w A l) (hU : ∀ k, U k → k < lo) (ho : OwnI 5 .u8 lo w v xs) (hlo : lo ≤ w.heap.size) (hb : xs.length + 67440394 ≤ top) :
    callK Tryz.prog 41 #[v, .slice A l.length c] w (RefOut w lo xs (citems.wr l) (citems.ok l)) := by
  refine callK_of Tryz.func41 c41 r41 (by exact Nat.le_of_ble_eq_true rfl) ?_
  rw [m41]
  by_cases hbig : (128 : Int) < (l.length : Int)
  · simp -implicitDefEqProofs only [go_sem, ↓reduceIte, reduceEqDiff, Int.reduceLT, Nat.reduceLT, reduceToNat, reducePow, reduceAdd, reduceEq, reduceLeDiff, reduceLE, hbig]
    exact ⟨v, false, rfl, ⟨fun h => (by cases h), fun h => by have : l.length ≤ 128 := h.1; omega⟩, fun h => (by cases h), Fx.refl _ _⟩
  · simp -implicitDefEqProofs only [go_sem, ↓reduceIte, reduceEqDiff, Int.reduceLT, Nat.reduceLT, reduceToNat, reducePow, reduceAdd, reduceEq, reduceLeDiff, reduceLE, hbig]
    refine (refnum_calls (n := l.length) (by omega)).mono ?_
    rintro u w1 ⟨hu, k1⟩
    have hv := vput_u64 (n := l.length) (by omega)
    simp -implicitDefEqProofs only [go_sem, ↓reduceIte, reduceEqDiff, Int.reduceLT, Nat.reduceLT, reduceToNat, reducePow, reduceAdd, reduceEq, reduceLeDiff, reduceLE]
    refine put_behind ho hlo k1 hu (by unfold top at hb ⊢; omega) ?_
    intro v2 w2 o2 f2
    simp -implicitDefEqProofs only [go_sem, ↓reduceIte, reduceEqDiff, Int.reduceLT, Nat.reduceLT, reduceToNat, reducePow, reduceAdd, reduceEq, reduceLeDiff, reduceLE]
    refine loop_intro (fun q f w' => ∃ (i : Nat) (u : Value) (r : Bool), q = l.length - i ∧ i ≤ l.length ∧ f 0 = u ∧ f 1 = .slice A l.length c ∧ f 6 = .bool r ∧ f 7 = .int .i64 i ∧ (r = true ↔ ∀ x ∈ l.take i, citem.ok x) ∧ (r = true → ∃ ys, ys = (xs ++ vput l.length) ++ (l.take i).flatMap citem.wr ∧ ys.length ≤ xs.length + 10 + i * 526878 ∧ OwnI 5 .u8 lo w' u ys) ∧ Fx (Wb 5 w lo) w w') l.length
      ⟨0, v2, true, rfl, by omega, by simp -implicitDefEqProofs only [go_sem, ↓reduceIte, reduceEqDiff, Int.reduceLT, Nat.reduceLT, reduceToNat, reducePow, reduceAdd, reduceEq, reduceLeDiff, reduceLE], by simp -implicitDefEqProofs only [go_sem, ↓reduceIte, reduceEqDiff, Int.reduceLT, Nat.reduceLT, reduceToNat, reducePow, reduceAdd, reduceEq, reduceLeDiff, reduceLE], by simp -implicitDefEqProofs only [go_sem, ↓reduceIte, reduceEqDiff, Int.reduceLT, Nat.reduceLT, reduceToNat, reducePow, reduceAdd, reduceEq, reduceLeDiff, reduceLE], by simp -implicitDefEqProofs only [go_sem, ↓reduceIte, reduceEqDiff, Int.reduceLT, Nat.reduceLT, reduceToNat, reducePow, reduceAdd, reduceEq, reduceLeDiff, reduceLE]; rfl, by simp, fun _ => ⟨_, by simp, by rw [List.length_append]; omega, o2⟩, f2⟩ ?_
    rintro q f w3 ⟨i, u3, r, rfl, hi, g0, g1, g6, g7, hok, hys, f3⟩
    have s3 := f3.size
    by_cases hlt : i < l.length
    · have i0 : (0 : Int) ≤ (i : Int) := by omega
      have i1 : (i : Int) < (l.length : Int) := by omega
      cases r with
      | false =>
        simp -implicitDefEqProofs only [go_sem, ↓reduceIte, reduceEqDiff, Int.reduceLT, Nat.reduceLT, reduceToNat, reducePow, reduceAdd, reduceEq, reduceLeDiff, reduceLE, g0, g1, g6, g7, i1]
        refine ⟨u3, false, rfl, ⟨fun h => (by cases h), fun h => ?_⟩, fun h => (by cases h), f3⟩
        exact hok.2 fun x hx => h.2 x (List.mem_of_mem_take hx)
      | true =>
        obtain ⟨ys, hys, hyl, o3⟩ := hys rfl
        have en : IntKind.i64.wrap ((i : Int) + 1) = ((i + 1 : Nat) : Int) := i64_nat (by omega) (by omega)
        obtain ⟨x, ex⟩ : ∃ x, l[i]? = some x := ⟨_, List.getElem?_eq_getElem hlt⟩
        have he3 := he.fx f3 fun k hk => Wb.low (hU k hk)
        obtain ⟨ad, rfl, hU3, cs, hrx, hcx⟩ := he3 i x ex
        have e4 : kItem.sz = 3 := rfl
        rw [e4] at hcx
        have hld := ldV_agg (P := Tryz.prog) sh64 (kItem.len hrx) hcx
        have htk : l.take (i + 1) = l.take i ++ [x] := by
          rw [List.take_succ_eq_append_getElem hlt]
          rw [List.getElem?_eq_getElem hlt] at ex
          cases ex; rfl
        have h1 := hok.1 rfl
        simp -implicitDefEqProofs only [go_sem, ↓reduceIte, reduceEqDiff, Int.reduceLT, Nat.reduceLT, reduceToNat, reducePow, reduceAdd, reduceEq, reduceLeDiff, reduceLE, g0, g1, g6, g7, i0, i1, hld]
        refine (refitem_calls hrx hU o3 (by omega) (by unfold top at hb ⊢; omega)).mono ?_
        rintro v4 w4 ⟨u4, r4, rfl, hok4, ho4, f4⟩
        simp -implicitDefEqProofs only [go_sem, ↓reduceIte, reduceEqDiff, Int.reduceLT, Nat.reduceLT, reduceToNat, reducePow, reduceAdd, reduceEq, reduceLeDiff, reduceLE, g1, g7, en]
        refine ⟨l.length - (i + 1), by omega, i + 1, u4, r4, rfl, by omega, by simp -implicitDefEqProofs only [go_sem, ↓reduceIte, reduceEqDiff, Int.reduceLT, Nat.reduceLT, reduceToNat, reducePow, reduceAdd, reduceEq, reduceLeDiff, reduceLE], by simp -implicitDefEqProofs only [go_sem, ↓reduceIte, reduceEqDiff, Int.reduceLT, Nat.reduceLT, reduceToNat, reducePow, reduceAdd, reduceEq, reduceLeDiff, reduceLE, g1], by simp -implicitDefEqProofs only [go_sem, ↓reduceIte, reduceEqDiff, Int.reduceLT, Nat.reduceLT, reduceToNat, reducePow, reduceAdd, reduceEq, reduceLeDiff, reduceLE], by simp -implicitDefEqProofs only [go_sem, ↓reduceIte, reduceEqDiff, Int.reduceLT, Nat.reduceLT, reduceToNat, reducePow, reduceAdd, reduceEq, reduceLeDiff, reduceLE], ?_, fun h4 => ⟨_, ?_, ?_, ho4 h4⟩, Wb.tr f3 f4⟩
        · rw [hok4, htk]
          exact ⟨fun h y hy => by
            rcases List.mem_append.1 hy with hy | hy
            · exact h1 y hy
            · simp at hy; subst hy; exact h, fun h => h x (by simp)⟩
        · rw [hys, htk, List.flatMap_append]
          simp
        · have := wr_len wr_item (item_range hrx) (hok4.1 h4)
          rw [List.length_append]; omega
    · have i1 : ¬ (i : Int) < (l.length : Int) := by omega
      have hil : i = l.length := by omega
      rw [hil, List.take_length] at hok hys
      simp -implicitDefEqProofs only [go_sem, ↓reduceIte, reduceEqDiff, Int.reduceLT, Nat.reduceLT, reduceToNat, reducePow, reduceAdd, reduceEq, reduceLeDiff, reduceLE, g0, g1, g6, g7, i1]
      refine ⟨u3, r, rfl, ⟨fun h => ⟨by omega, hok.1 h⟩, fun h => hok.2 h.2⟩, fun h => ?_, f3⟩
      obtain ⟨ys, rfl, _, o3⟩ := hys h
      rw [List.append_assoc] at o3; exact o3
theorem refhits_calls {U : Nat → Prop} {A : Option Addr} {c : Nat} {l : List MHit} (hl : l.length ≤ 9223372036854775807) (he : Elems kHit U w A l) (hU : ∀ k, U k → k < lo) (ho : OwnI 5 .u8 lo w v xs) (hlo : lo ≤ w.heap.size) (hb : xs.length + 2570 ≤ top) :
    callK Tryz.prog 42 #[v, .slice A l.length c] w (RefOut w lo xs (chits.wr l) (chits.ok l)) := by
  refine callK_of Tryz.func42 c42 r42 (by exact Nat.le_of_ble_eq_true rfl) ?_
  rw [m42]
  have hrange := hits_range he
  have hall : ∀ x ∈ l, chit.ok x := fun x hx => by
    have := hrange x hx
    exact ⟨⟨this.1, this.2⟩, rfl⟩
  by_cases hbig : (128 : Int) < (l.length : Int)
  · simp -implicitDefEqProofs only [go_sem, ↓reduceIte, reduceEqDiff, Int.reduceLT, Nat.reduceLT, reduceToNat, reducePow, reduceAdd, reduceEq, reduceLeDiff, reduceLE, hbig]
    exact ⟨v, false, rfl, ⟨fun h => (by cases h), fun h => by have : l.length ≤ 128 := h.1; omega⟩, fun h => (by cases h), Fx.refl _ _⟩
  · simp -implicitDefEqProofs only [go_sem, ↓reduceIte, reduceEqDiff, Int.reduceLT, Nat.reduceLT, reduceToNat, reducePow, reduceAdd, reduceEq, reduceLeDiff, reduceLE, hbig]
    refine (refnum_calls (n := l.length) (by omega)).mono ?_
    rintro u w1 ⟨hu, k1⟩
    have hv := vput_u64 (n := l.length) (by omega)
    simp -implicitDefEqProofs only [go_sem, ↓reduceIte, reduceEqDiff, Int.reduceLT, Nat.reduceLT, reduceToNat, reducePow, reduceAdd, reduceEq, reduceLeDiff, reduceLE]
    refine put_behind ho hlo k1 hu (by unfold top at hb ⊢; omega) ?_
    intro v2 w2 o2 f2
    simp -implicitDefEqProofs only [go_sem, ↓reduceIte, reduceEqDiff, Int.reduceLT, Nat.reduceLT, reduceToNat, reducePow, reduceAdd, reduceEq, reduceLeDiff, reduceLE]
    refine loop_intro (fun q f w' => ∃ (i : Nat) (u : Value) (ys : List Int), q = l.length - i ∧ i ≤ l.length ∧ f 0 = u ∧ f 1 = .slice A l.length c ∧ f 6 = .int .i64 i ∧ ys = (xs ++ vput l.length) ++ (l.take i).flatMap chit.wr ∧ ys.length ≤ xs.length + 10 + i * 20 ∧ OwnI 5 .u8 lo w' u ys ∧ Fx (Wb 5 w lo) w w') l.length
      ⟨0, v2, _, rfl, by omega, by simp -implicitDefEqProofs only [go_sem, ↓reduceIte, reduceEqDiff, Int.reduceLT, Nat.reduceLT, reduceToNat, reducePow, reduceAdd, reduceEq, reduceLeDiff, reduceLE], by simp -implicitDefEqProofs only [go_sem, ↓reduceIte, reduceEqDiff, Int.reduceLT, Nat.reduceLT, reduceToNat, reducePow, reduceAdd, reduceEq, reduceLeDiff, reduceLE], by simp -implicitDefEqProofs only [go_sem, ↓reduceIte, reduceEqDiff, Int.reduceLT, Nat.reduceLT, reduceToNat, reducePow, reduceAdd, reduceEq, reduceLeDiff, reduceLE]; rfl, by simp, by rw [List.length_append]; omega, o2, f2⟩ ?_
    rintro q f w3 ⟨i, u3, ys, rfl, hi, g0, g1, g6, hys, hyl, o3, f3⟩
    have s3 := f3.size
    by_cases hlt : i < l.length
    · have i0 : (0 : Int) ≤ (i : Int) := by omega
      have i1 : (i : Int) < (l.length : Int) := by omega
      have en : IntKind.i64.wrap ((i : Int) + 1) = ((i + 1 : Nat) : Int) := i64_nat (by omega) (by omega)
      obtain ⟨x, ex⟩ : ∃ x, l[i]? = some x := ⟨_, List.getElem?_eq_getElem hlt⟩
      obtain ⟨⟨d0, d1⟩, n0, n1⟩ := hrange x (List.mem_of_getElem? ex)
      have htk : l.take (i + 1) = l.take i ++ [x] := by
        rw [List.take_succ_eq_append_getElem hlt]
        rw [List.getElem?_eq_getElem hlt] at ex
        cases ex; rfl
      have he3 := he.fx f3 fun k hk => Wb.low (hU k hk)
      obtain ⟨ad, rfl, hU3, cs, hrx, hcx⟩ := he3 i x ex
      obtain ⟨rfl, _⟩ := kHit_cases hrx
      have e4 : kHit.sz = 2 := rfl
      rw [e4] at hcx
      have facts : ∀ (w' : World), Fx (Wb 5 w3 lo) w3 w' → w'.cell? (ad.add (i * 2)) = some (.int .i64 x.dist) ∧ w'.cell? ⟨(ad.add (i * 2)).block, (ad.add (i * 2)).off + 1, none⟩ = some (.int .u32 x.id) := by
        intro w' f'
        have kx := hcx.ext (w' := w') (fun hlt => f'.block _ hlt (Wb.low (by rw [add_block]; exact hU _ hU3)))
        refine ⟨by have := kx 0 _ rfl; rwa [add_zero'] at this, ?_⟩
        have := kx 1 _ rfl; simp only [go_sem] at this; exact this
      obtain ⟨y0, y1⟩ := facts w3 (Fx.refl _ _)
      simp -implicitDefEqProofs only [go_sem, ↓reduceIte, reduceEqDiff, Int.reduceLT, Nat.reduceLT, reduceToNat, reducePow, reduceAdd, reduceEq, reduceLeDiff, reduceLE, g0, g1, g6, i0, i1, y0]
      refine (refPutInt_calls (by omega) (by omega) w3).mono ?_
      rintro u4 w4 ⟨hu4, k4⟩
      have hz := vput_u64 (n := zig x.dist) (zig_lt (by omega) (by omega))
      simp -implicitDefEqProofs only [go_sem, ↓reduceIte, reduceEqDiff, Int.reduceLT, Nat.reduceLT, reduceToNat, reducePow, reduceAdd, reduceEq, reduceLeDiff, reduceLE, g0]
      refine put_behind o3 (by omega) k4 hu4 (by unfold top at hb ⊢; omega) ?_
      intro v5 w5 o5 f5
      have s5 := f5.size
      obtain ⟨p0, p1⟩ := facts w5 f5
      obtain ⟨n, hn⟩ := Int.eq_ofNat_of_zero_le n0
      have hn2 : x.id.toNat = n := by omega
      have e1 : IntKind.i64.wrap x.id = (n : Int) := by rw [hn]; exact i64_nat (by omega) (by omega)
      have hl5 : (ys ++ vput (zig x.dist)).length ≤ ys.length + 10 := by rw [List.length_append]; omega
      simp -implicitDefEqProofs only [go_sem, ↓reduceIte, reduceEqDiff, Int.reduceLT, Nat.reduceLT, reduceToNat, reducePow, reduceAdd, reduceEq, reduceLeDiff, reduceLE, g1, g6, i0, i1, p1, e1]
      refine (refnum_calls (n := n) (by omega)).mono ?_
      rintro u6 w6 ⟨hu6, k6⟩
      have hvn := vput_u64 (n := n) (by omega)
      simp -implicitDefEqProofs only [go_sem, ↓reduceIte, reduceEqDiff, Int.reduceLT, Nat.reduceLT, reduceToNat, reducePow, reduceAdd, reduceEq, reduceLeDiff, reduceLE]
      refine put_behind o5 (by omega) k6 hu6 (by unfold top at hb ⊢; omega) ?_
      intro v7 w7 o7 f7
      simp -implicitDefEqProofs only [go_sem, ↓reduceIte, reduceEqDiff, Int.reduceLT, Nat.reduceLT, reduceToNat, reducePow, reduceAdd, reduceEq, reduceLeDiff, reduceLE, g1, g6, en]
      refine ⟨l.length - (i + 1), by omega, i + 1, v7, _, rfl, by omega, by simp -implicitDefEqProofs only [go_sem, ↓reduceIte, reduceEqDiff, Int.reduceLT, Nat.reduceLT, reduceToNat, reducePow, reduceAdd, reduceEq, reduceLeDiff, reduceLE], by simp -implicitDefEqProofs only [go_sem, ↓reduceIte, reduceEqDiff, Int.reduceLT, Nat.reduceLT, reduceToNat, reducePow, reduceAdd, reduceEq, reduceLeDiff, reduceLE, g1], by simp -implicitDefEqProofs only [go_sem, ↓reduceIte, reduceEqDiff, Int.reduceLT, Nat.reduceLT, reduceToNat, reducePow, reduceAdd, reduceEq, reduceLeDiff, reduceLE], ?_, ?_, o7, Wb.tr f3 (Wb.tr f5 f7)⟩
      · rw [hys, htk, List.flatMap_append]
        have : chit.wr x = vput (zig x.dist) ++ vput n := by
          show vput (zig x.dist) ++ vput x.id.toNat = _
          rw [hn2]
        simp [this]
      · simp only [List.length_append] at hl5 ⊢; omega
    · have i1 : ¬ (i : Int) < (l.length : Int) := by omega
      have hil : i = l.length := by omega
      rw [hil, List.take_length] at hys
      simp -implicitDefEqProofs only [go_sem, ↓reduceIte, reduceEqDiff, Int.reduceLT, Nat.reduceLT, reduceToNat, reducePow, reduceAdd, reduceEq, reduceLeDiff, reduceLE, g0, g1, g6, i1]
      refine ⟨u3, true, rfl, ⟨fun _ => ⟨by omega, hall⟩, fun _ => rfl⟩, fun _ => ?_, f3⟩
      rw [hys, List.append_assoc] at o3; exact o3
end
end Go.Proofs.YtnlibeaainbipaaGreat.F
