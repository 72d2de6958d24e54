/- The document's writer: what it gives, and whether it can. Conditions: the data lies in blocks that stand before. -/
import Derived.Test.YtnlibeaainbipaaGreatGwlist
import Derived.Test.YtnlibeaainbipaaGreatZ4
import Derived.Test.YtnlibeaainbipaaGreatGsame
import Derived.Test.YtnlibeaainbipaaGreatMfnr
namespace Go.Proofs.YtnlibeaainbipaaGreat.M
open Go.RowKit Go.Proofs.YtnlibeaainbipaaGreat.V
open Nat (reduceEqDiff reduceAdd reduceLeDiff)
open Int (reduceToNat reducePow reduceEq reduceLE)
/-- Bytes of a call's own. -/
def Wb (e : TypeId) (w : World) (lo k : Nat) : Prop := lo ≤ k ∧ ∃ cs, Blk w k e cs
theorem Wb.tr {e : TypeId} {w w1 w2 : World} {lo : Nat} (h : Fx (Wb e w lo) w w1) (h' : Fx (Wb e w1 lo) w1 w2) : Fx (Wb e w lo) w w2 := by
  refine h.trans h' fun k hk x => ?_
  rcases Classical.em (Wb e w lo k) with q | q
  · exact q
  · obtain ⟨h1, cs, hc⟩ := x
    exact ⟨h1, cs, (h.block k hk q).symm.trans hc⟩
theorem Wb.ktr {e : TypeId} {w w1 w2 : World} {lo : Nat} (h : Keep w w1) (h' : Fx (Wb e w1 lo) w1 w2) : Fx (Wb e w lo) w w2 := Wb.tr (h.fx _) h'
theorem Wb.low {e : TypeId} {w : World} {lo k : Nat} (h : k < lo) : ¬ Wb e w lo k := by rintro ⟨x, _⟩; omega
theorem Wb.not {e : TypeId} {w : World} {lo k t : Nat} {cs : Array Value} (hb : Blk w k t cs) (ht : t ≠ e) : ¬ Wb e w lo k := by
  rintro ⟨_, cs', x⟩
  have := Option.some.inj (Eq.trans (Eq.symm hb) x)
  cases this
  exact ht rfl
theorem OwnI.wb {e : TypeId} {w : World} {lo : Nat} {v : Value} {xs : List Int} (h : OwnI e .u8 lo w v xs) {k : Nat} (hk : some k = v.ownBlock) : Wb e w lo k := by
  rcases h.2 with ⟨hv', _⟩ | ⟨g', cap, cur, hv', hb, hg, _⟩
  · rw [hv'] at hk; cases hk
  · rw [hv'] at hk
    have : k = g' := by simpa [Value.ownBlock] using hk
    subst this
    exact ⟨hb, cur, hg⟩
end Go.Proofs.YtnlibeaainbipaaGreat.M
namespace Go.Proofs.YtnlibeaainbipaaGreat.F
open Go.RowKit Go.Proofs.YtnlibeaainbipaaGreat.M Go.Proofs.YtnlibeaainbipaaGreat.V
open Nat (reduceEqDiff reduceAdd reduceLeDiff)
open Int (reduceToNat reducePow reduceEq reduceLE)
set_option linter.unusedSimpArgs false
set_option linter.unusedVariables false
set_option maxRecDepth 20000
def top : Nat := 70368744177664
/-- What the document's writing of a part gives: bytes, if they are all. -/
def RefOut (w : World) (lo : Nat) (xs wr : List Int) (ok : Prop) (v : Value) (w' : World) : Prop :=
  ∃ v1 q, v = .tuple #[v1, .bool q] ∧ (q = true ↔ ok) ∧ (q = true → OwnI 5 .u8 lo w' v1 (xs ++ wr)) ∧ Fx (Wb 5 w lo) w w'
theorem wr_len {α : Type} {c : Codec α} {R : α → Prop} {one : α → WS → WS} {B : Nat} (W : Wr c R one B) {x : α} (hR : R x) (hok : c.ok x) : (c.wr x).length ≤ B := by
  have hb := (W.bad x ⟨[], false⟩ hR).2 ⟨rfl, hok⟩
  have h1 := W.len x ⟨[], false⟩ hR
  rw [W.b x ⟨[], false⟩ hR hb] at h1
  simpa using h1
section
variable {w : World} {lo : Nat} {v : Value} {xs : List Int}
theorem refnum_calls {n : Nat} (hn : n < 9223372036854775808) : callK Tryz.prog 35 #[.int .i64 n] w fun v w' => OwnI 5 .u8 w.heap.size w' v (vput n) ∧ Keep w w' := by
  refine callK_of Tryz.func35 c35 r35 (by exact Nat.le_of_ble_eq_true rfl) ?_
  rw [m35]
  have e : IntKind.u64.wrap (n : Int) = n := u64_nat (by omega) (by omega)
  simp -implicitDefEqProofs only [go_sem, ↓reduceIte, reduceEqDiff, Int.reduceLT, Nat.reduceLT, reduceToNat, reducePow, reduceAdd, reduceEq, reduceLeDiff, reduceLE, e]
  refine (refPut_calls _ (show n < 18446744073709551616 by omega) w).mono ?_
  rintro v w' h
  simp -implicitDefEqProofs only [go_sem, ↓reduceIte, reduceEqDiff, Int.reduceLT, Nat.reduceLT, reduceToNat, reducePow, reduceAdd, reduceEq, reduceLeDiff, reduceLE]
  exact h
theorem refflag_calls (b : Bool) : callK Tryz.prog 37 #[.bool b] w fun v w' => OwnI 5 .u8 w.heap.size w' v (cflag.wr b) ∧ Keep w w' := by
  refine callK_of Tryz.func37 c37 r37 (by exact Nat.le_of_ble_eq_true rfl) ?_
  rw [m37]
  cases b with
  | true =>
    simp -implicitDefEqProofs only [go_sem, ↓reduceIte, reduceEqDiff, Int.reduceLT, Nat.reduceLT, reduceToNat, reducePow, reduceAdd, reduceEq, reduceLeDiff, reduceLE]
    refine bsl_one ie8 ?_
    simp -implicitDefEqProofs only [go_sem, ↓reduceIte, reduceEqDiff, Int.reduceLT, Nat.reduceLT, reduceToNat, reducePow, reduceAdd, reduceEq, reduceLeDiff, reduceLE]
    have e : cflag.wr true = [1] := by kernel_rfl
    rw [e]
    exact ⟨OwnI.new w 5 .u8 [1] (Nat.le_refl _) (by decide), Fx.alloc _ _ _⟩
  | false =>
    simp -implicitDefEqProofs only [go_sem, ↓reduceIte, reduceEqDiff, Int.reduceLT, Nat.reduceLT, reduceToNat, reducePow, reduceAdd, reduceEq, reduceLeDiff, reduceLE]
    refine bsl_one ie8 ?_
    simp -implicitDefEqProofs only [go_sem, ↓reduceIte, reduceEqDiff, Int.reduceLT, Nat.reduceLT, reduceToNat, reducePow, reduceAdd, reduceEq, reduceLeDiff, reduceLE]
    have e : cflag.wr false = [0] := by kernel_rfl
    rw [e]
    exact ⟨OwnI.new w 5 .u8 [0] (Nat.le_refl _) (by decide), Fx.alloc _ _ _⟩
/-- What a call has made is put behind. -/
theorem put_behind {ty : TypeId} {ys : List Int} {u : Value} {w1 : World} {k : Value → World → Prop} (ho : OwnI 5 .u8 lo w v xs) (hlo : lo ≤ w.heap.size) (kk : Keep w w1) (hu : OwnI 5 .u8 w.heap.size w1 u ys) (hl : xs.length + ys.length ≤ top)
    (hk : ∀ v' w', OwnI 5 .u8 lo w' v' (xs ++ ys) → Fx (Wb 5 w lo) w w' → k v' w') : appK Tryz.prog #[33, 33] ty #[v, u] w1 k := by
  obtain ⟨A, c, rfl, hc, hr⟩ := hu.slice
  have ho1 := ho.fx kk (fun _ _ x => x)
  have s1 := kk.size
  refine append_own ie8 (by decide) ho1 hr (by unfold top at hl; omega) (by omega) ?_
  intro v' w' o' f' _
  exact hk v' w' o' (Wb.ktr kk (f'.weaken fun k _ e => ho1.wb e))
theorem reftext_calls (x : ByteArray) (ho : OwnI 5 .u8 lo w v xs) (hlo : lo ≤ w.heap.size) (hl : xs.length + 4106 ≤ top) :
    callK Tryz.prog 36 #[v, .string x] w fun u w' => (¬ ctext.ok x ∧ u = .tuple #[v, .bool false] ∧ w' = w) ∨ (ctext.ok x ∧ ∃ v1, u = .tuple #[v1, .bool true] ∧ OwnI 5 .u8 lo w' v1 (xs ++ ctext.wr x) ∧ Fx (Wb 5 w lo) w w') := by
  refine callK_of Tryz.func36 c36 r36 (by exact Nat.le_of_ble_eq_true rfl) ?_
  rw [m36]
  by_cases hbig : (4096 : Int) < (x.size : Int)
  · simp -implicitDefEqProofs only [go_sem, ↓reduceIte, reduceEqDiff, Int.reduceLT, Nat.reduceLT, reduceToNat, reducePow, reduceAdd, reduceEq, reduceLeDiff, reduceLE, hbig]
    exact .inl ⟨fun h => by rw [ctext_ok] at h; omega, (by first | rfl | trivial), (by first | rfl | trivial)⟩
  · simp -implicitDefEqProofs only [go_sem, ↓reduceIte, reduceEqDiff, Int.reduceLT, Nat.reduceLT, reduceToNat, reducePow, reduceAdd, reduceEq, reduceLeDiff, reduceLE, hbig]
    refine (refnum_calls (n := x.size) (by omega)).mono ?_
    rintro u w1 ⟨hu, k1⟩
    have hv := vput_u64 (n := x.size) (by omega)
    simp -implicitDefEqProofs only [go_sem, ↓reduceIte, reduceEqDiff, Int.reduceLT, Nat.reduceLT, reduceToNat, reducePow, reduceAdd, reduceEq, reduceLeDiff, reduceLE]
    refine put_behind ho hlo k1 hu (by unfold top at hl ⊢; omega) ?_
    intro v2 w2 o2 f2
    have s2 := f2.size
    simp -implicitDefEqProofs only [go_sem, ↓reduceIte, reduceEqDiff, Int.reduceLT, Nat.reduceLT, reduceToNat, reducePow, reduceAdd, reduceEq, reduceLeDiff, reduceLE]
    refine append_str ie8 Tryz.underlying9 o2 (by rw [List.length_append]; unfold top at hl; omega) (by omega) ?_
    intro v3 w3 o3 f3
    simp -implicitDefEqProofs only [go_sem, ↓reduceIte, reduceEqDiff, Int.reduceLT, Nat.reduceLT, reduceToNat, reducePow, reduceAdd, reduceEq, reduceLeDiff, reduceLE]
    refine .inr ⟨by rw [ctext_ok]; omega, v3, rfl, ?_, Wb.tr f2 (f3.weaken fun k _ e => o2.wb e)⟩
    rw [ctext_wr, ← List.append_assoc]; exact o3
theorem refvec_calls {U : Nat → Prop} {A : Option Addr} {c : Nat} {l : List Int} (hl : l.length ≤ 9223372036854775807) (he : Elems (Kind.int .i32) U w A l) (hU : ∀ k, U k → k < lo) (ho : OwnI 5 .u8 lo w v xs) (hlo : lo ≤ w.heap.size) (hb : xs.length + 1290 ≤ top) :
    callK Tryz.prog 39 #[v, .slice A l.length c] w (RefOut w lo xs (cvec.wr l) (cvec.ok l)) := by
  refine callK_of Tryz.func39 c39 r39 (by exact Nat.le_of_ble_eq_true rfl) ?_
  rw [m39]
  have rng : ∀ x ∈ l, -2147483648 ≤ x ∧ x ≤ 2147483647 := by
    intro x hx
    obtain ⟨j, hj, e⟩ := List.mem_iff_getElem.1 hx
    obtain ⟨_, _, _, vs, hr, _⟩ := he j x (by rw [List.getElem?_eq_getElem hj, e])
    exact unI32 hr.2
  by_cases hbig : (128 : Int) < (l.length : Int)
  · simp -implicitDefEqProofs only [go_sem, ↓reduceIte, reduceEqDiff, Int.reduceLT, Nat.reduceLT, reduceToNat, reducePow, reduceAdd, reduceEq, reduceLeDiff, reduceLE, hbig]
    exact ⟨v, false, rfl, ⟨fun h => (by cases h), fun h => by have : l.length ≤ 128 := h.1; omega⟩, fun h => (by cases h), Fx.refl _ _⟩
  · simp -implicitDefEqProofs only [go_sem, ↓reduceIte, reduceEqDiff, Int.reduceLT, Nat.reduceLT, reduceToNat, reducePow, reduceAdd, reduceEq, reduceLeDiff, reduceLE, hbig]
    refine (refnum_calls (n := l.length) (by omega)).mono ?_
    rintro u w1 ⟨hu, k1⟩
    have hv := vput_u64 (n := l.length) (by omega)
    simp -implicitDefEqProofs only [go_sem, ↓reduceIte, reduceEqDiff, Int.reduceLT, Nat.reduceLT, reduceToNat, reducePow, reduceAdd, reduceEq, reduceLeDiff, reduceLE]
    refine put_behind ho hlo k1 hu (by unfold top at hb ⊢; omega) ?_
    intro v2 w2 o2 f2
    simp -implicitDefEqProofs only [go_sem, ↓reduceIte, reduceEqDiff, Int.reduceLT, Nat.reduceLT, reduceToNat, reducePow, reduceAdd, reduceEq, reduceLeDiff, reduceLE]
    refine loop_intro (fun q f w' => ∃ (i : Nat) (u : Value) (ys : List Int), q = l.length - i ∧ i ≤ l.length ∧ f 0 = u ∧ f 1 = .slice A l.length c ∧ f 6 = .int .i64 i ∧ ys = (xs ++ vput l.length) ++ (l.take i).flatMap (fun x => vput (zig x)) ∧ ys.length ≤ xs.length + 10 + i * 10 ∧ OwnI 5 .u8 lo w' u ys ∧ Fx (Wb 5 w lo) w w') l.length
      ⟨0, v2, _, rfl, by omega, by simp -implicitDefEqProofs only [go_sem, ↓reduceIte, reduceEqDiff, Int.reduceLT, Nat.reduceLT, reduceToNat, reducePow, reduceAdd, reduceEq, reduceLeDiff, reduceLE], by simp -implicitDefEqProofs only [go_sem, ↓reduceIte, reduceEqDiff, Int.reduceLT, Nat.reduceLT, reduceToNat, reducePow, reduceAdd, reduceEq, reduceLeDiff, reduceLE], by simp -implicitDefEqProofs only [go_sem, ↓reduceIte, reduceEqDiff, Int.reduceLT, Nat.reduceLT, reduceToNat, reducePow, reduceAdd, reduceEq, reduceLeDiff, reduceLE]; rfl, by simp, by rw [List.length_append]; omega, o2, f2⟩ ?_
    rintro q f w3 ⟨i, u3, ys, rfl, hi, g0, g1, g6, hys, hyl, o3, f3⟩
    have s3 := f3.size
    by_cases hlt : i < l.length
    · have i0 : (0 : Int) ≤ (i : Int) := by omega
      have i1 : (i : Int) < (l.length : Int) := by omega
      have en : IntKind.i64.wrap ((i : Int) + 1) = ((i + 1 : Nat) : Int) := i64_nat (by omega) (by omega)
      obtain ⟨x, ex⟩ : ∃ x, l[i]? = some x := ⟨_, List.getElem?_eq_getElem hlt⟩
      obtain ⟨ad, rfl, hcx⟩ := elem_one (he.fx f3 fun k hk => Wb.low (hU k hk)) ex
      rw [Nat.mul_one] at hcx
      obtain ⟨r0, r1⟩ := rng x (List.mem_of_getElem? ex)
      have e1 : IntKind.i64.wrap x = x := by rw [i64_w, w64_id (by omega) (by omega)]
      simp -implicitDefEqProofs only [go_sem, ↓reduceIte, reduceEqDiff, Int.reduceLT, Nat.reduceLT, reduceToNat, reducePow, reduceAdd, reduceEq, reduceLeDiff, reduceLE, g0, g1, g6, i0, i1, hcx, e1]
      refine (refPutInt_calls (by omega) (by omega) w3).mono ?_
      rintro u4 w4 ⟨hu4, k4⟩
      have hz := vput_u64 (n := zig x) (zig_lt (by omega) (by omega))
      simp -implicitDefEqProofs only [go_sem, ↓reduceIte, reduceEqDiff, Int.reduceLT, Nat.reduceLT, reduceToNat, reducePow, reduceAdd, reduceEq, reduceLeDiff, reduceLE, g0]
      refine put_behind o3 (by omega) k4 hu4 (by unfold top at hb ⊢; omega) ?_
      intro v5 w5 o5 f5
      simp -implicitDefEqProofs only [go_sem, ↓reduceIte, reduceEqDiff, Int.reduceLT, Nat.reduceLT, reduceToNat, reducePow, reduceAdd, reduceEq, reduceLeDiff, reduceLE, g1, g6, en]
      refine ⟨l.length - (i + 1), by omega, i + 1, v5, ys ++ vput (zig x), rfl, by omega, by simp -implicitDefEqProofs only [go_sem, ↓reduceIte, reduceEqDiff, Int.reduceLT, Nat.reduceLT, reduceToNat, reducePow, reduceAdd, reduceEq, reduceLeDiff, reduceLE], by simp -implicitDefEqProofs only [go_sem, ↓reduceIte, reduceEqDiff, Int.reduceLT, Nat.reduceLT, reduceToNat, reducePow, reduceAdd, reduceEq, reduceLeDiff, reduceLE, g1], by simp -implicitDefEqProofs only [go_sem, ↓reduceIte, reduceEqDiff, Int.reduceLT, Nat.reduceLT, reduceToNat, reducePow, reduceAdd, reduceEq, reduceLeDiff, reduceLE], ?_, by rw [List.length_append]; omega, o5, Wb.tr f3 f5⟩
      rw [hys, List.take_succ_eq_append_getElem hlt, List.flatMap_append]
      rw [List.getElem?_eq_getElem hlt] at ex
      cases ex
      simp
    · have i1 : ¬ (i : Int) < (l.length : Int) := by omega
      have hil : i = l.length := by omega
      simp -implicitDefEqProofs only [go_sem, ↓reduceIte, reduceEqDiff, Int.reduceLT, Nat.reduceLT, reduceToNat, reducePow, reduceAdd, reduceEq, reduceLeDiff, reduceLE, g0, g1, g6, i1]
      refine ⟨u3, true, rfl, ⟨fun _ => ⟨by omega, fun x hx => rng x hx⟩, fun _ => rfl⟩, fun _ => ?_, f3⟩
      rw [hys, hil, List.take_length, List.append_assoc] at o3; exact o3
theorem reftexts_calls {U : Nat → Prop} {A : Option Addr} {c : Nat} {l : List ByteArray} (hl : l.length ≤ 9223372036854775807) (he : Elems Kind.str U w A l) (hU : ∀ k, U k → k < lo) (ho : OwnI 5 .u8 lo w v xs) (hlo : lo ≤ w.heap.size) (hb : xs.length + 525578 ≤ top) :
    callK Tryz.prog 40 #[v, .slice A l.length c] w (RefOut w lo xs (ctexts.wr l) (ctexts.ok l)) := by
  refine callK_of Tryz.func40 c40 r40 (by exact Nat.le_of_ble_eq_true rfl) ?_
  rw [m40]
  by_cases hbig : (128 : Int) < (l.length : Int)
  · simp -implicitDefEqProofs only [go_sem, ↓reduceIte, reduceEqDiff, Int.reduceLT, Nat.reduceLT, reduceToNat, reducePow, reduceAdd, reduceEq, reduceLeDiff, reduceLE, hbig]
    exact ⟨v, false, rfl, ⟨fun h => (by cases h), fun h => by have : l.length ≤ 128 := h.1; omega⟩, fun h => (by cases h), Fx.refl _ _⟩
  · simp -implicitDefEqProofs only [go_sem, ↓reduceIte, reduceEqDiff, Int.reduceLT, Nat.reduceLT, reduceToNat, reducePow, reduceAdd, reduceEq, reduceLeDiff, reduceLE, hbig]
    refine (refnum_calls (n := l.length) (by omega)).mono ?_
    rintro u w1 ⟨hu, k1⟩
    have hv := vput_u64 (n := l.length) (by omega)
    simp -implicitDefEqProofs only [go_sem, ↓reduceIte, reduceEqDiff, Int.reduceLT, Nat.reduceLT, reduceToNat, reducePow, reduceAdd, reduceEq, reduceLeDiff, reduceLE]
    refine put_behind ho hlo k1 hu (by unfold top at hb ⊢; omega) ?_
    intro v2 w2 o2 f2
    simp -implicitDefEqProofs only [go_sem, ↓reduceIte, reduceEqDiff, Int.reduceLT, Nat.reduceLT, reduceToNat, reducePow, reduceAdd, reduceEq, reduceLeDiff, reduceLE]
    refine loop_intro (fun q f w' => ∃ (i : Nat) (u : Value) (r : Bool), q = l.length - i ∧ i ≤ l.length ∧ f 0 = u ∧ f 1 = .slice A l.length c ∧ f 6 = .bool r ∧ f 7 = .int .i64 i ∧ (r = true ↔ ∀ x ∈ l.take i, ctext.ok x) ∧ (r = true → ∃ ys, ys = (xs ++ vput l.length) ++ (l.take i).flatMap ctext.wr ∧ ys.length ≤ xs.length + 10 + i * 4106 ∧ OwnI 5 .u8 lo w' u ys) ∧ Fx (Wb 5 w lo) w w') l.length
      ⟨0, v2, true, rfl, by omega, by simp -implicitDefEqProofs only [go_sem, ↓reduceIte, reduceEqDiff, Int.reduceLT, Nat.reduceLT, reduceToNat, reducePow, reduceAdd, reduceEq, reduceLeDiff, reduceLE], by simp -implicitDefEqProofs only [go_sem, ↓reduceIte, reduceEqDiff, Int.reduceLT, Nat.reduceLT, reduceToNat, reducePow, reduceAdd, reduceEq, reduceLeDiff, reduceLE], by simp -implicitDefEqProofs only [go_sem, ↓reduceIte, reduceEqDiff, Int.reduceLT, Nat.reduceLT, reduceToNat, reducePow, reduceAdd, reduceEq, reduceLeDiff, reduceLE], by simp -implicitDefEqProofs only [go_sem, ↓reduceIte, reduceEqDiff, Int.reduceLT, Nat.reduceLT, reduceToNat, reducePow, reduceAdd, reduceEq, reduceLeDiff, reduceLE]; rfl, by simp, fun _ => ⟨_, by simp, by rw [List.length_append]; omega, o2⟩, f2⟩ ?_
    rintro q f w3 ⟨i, u3, r, rfl, hi, g0, g1, g6, g7, hok, hys, f3⟩
    have s3 := f3.size
    by_cases hlt : i < l.length
    · have i0 : (0 : Int) ≤ (i : Int) := by omega
      have i1 : (i : Int) < (l.length : Int) := by omega
      cases r with
      | false =>
        simp -implicitDefEqProofs only [go_sem, ↓reduceIte, reduceEqDiff, Int.reduceLT, Nat.reduceLT, reduceToNat, reducePow, reduceAdd, reduceEq, reduceLeDiff, reduceLE, g0, g1, g6, g7, i1]
        refine ⟨u3, false, rfl, ⟨fun h => (by cases h), fun h => ?_⟩, fun h => (by cases h), f3⟩
        exact hok.2 fun x hx => h.2 x (List.mem_of_mem_take hx)
      | true =>
        obtain ⟨ys, hys, hyl, o3⟩ := hys rfl
        have en : IntKind.i64.wrap ((i : Int) + 1) = ((i + 1 : Nat) : Int) := i64_nat (by omega) (by omega)
        obtain ⟨x, ex⟩ : ∃ x, l[i]? = some x := ⟨_, List.getElem?_eq_getElem hlt⟩
        obtain ⟨ad, rfl, hcx⟩ := elem_str (he.fx f3 fun k hk => Wb.low (hU k hk)) ex
        rw [Nat.mul_one] at hcx
        have htk : l.take (i + 1) = l.take i ++ [x] := by
          rw [List.take_succ_eq_append_getElem hlt]
          rw [List.getElem?_eq_getElem hlt] at ex
          cases ex; rfl
        have h1 := hok.1 rfl
        simp -implicitDefEqProofs only [go_sem, ↓reduceIte, reduceEqDiff, Int.reduceLT, Nat.reduceLT, reduceToNat, reducePow, reduceAdd, reduceEq, reduceLeDiff, reduceLE, g0, g1, g6, g7, i0, i1, hcx]
        refine (reftext_calls x o3 (by omega) (by unfold top at hb ⊢; omega)).mono ?_
        rintro v4 w4 (⟨hno, rfl, rfl⟩ | ⟨hyes, u4, rfl, o4, f4⟩)
        · simp -implicitDefEqProofs only [go_sem, ↓reduceIte, reduceEqDiff, Int.reduceLT, Nat.reduceLT, reduceToNat, reducePow, reduceAdd, reduceEq, reduceLeDiff, reduceLE, g1, g7, en]
          refine ⟨l.length - (i + 1), by omega, i + 1, u3, false, rfl, by omega, by simp -implicitDefEqProofs only [go_sem, ↓reduceIte, reduceEqDiff, Int.reduceLT, Nat.reduceLT, reduceToNat, reducePow, reduceAdd, reduceEq, reduceLeDiff, reduceLE], by simp -implicitDefEqProofs only [go_sem, ↓reduceIte, reduceEqDiff, Int.reduceLT, Nat.reduceLT, reduceToNat, reducePow, reduceAdd, reduceEq, reduceLeDiff, reduceLE, g1], by simp -implicitDefEqProofs only [go_sem, ↓reduceIte, reduceEqDiff, Int.reduceLT, Nat.reduceLT, reduceToNat, reducePow, reduceAdd, reduceEq, reduceLeDiff, reduceLE], by simp -implicitDefEqProofs only [go_sem, ↓reduceIte, reduceEqDiff, Int.reduceLT, Nat.reduceLT, reduceToNat, reducePow, reduceAdd, reduceEq, reduceLeDiff, reduceLE], ⟨fun h => (by cases h), fun h => ?_⟩, fun h => (by cases h), f3⟩
          rw [htk] at h
          exact absurd (h x (by simp)) hno
        · simp -implicitDefEqProofs only [go_sem, ↓reduceIte, reduceEqDiff, Int.reduceLT, Nat.reduceLT, reduceToNat, reducePow, reduceAdd, reduceEq, reduceLeDiff, reduceLE, g1, g7, en]
          refine ⟨l.length - (i + 1), by omega, i + 1, u4, true, rfl, by omega, by simp -implicitDefEqProofs only [go_sem, ↓reduceIte, reduceEqDiff, Int.reduceLT, Nat.reduceLT, reduceToNat, reducePow, reduceAdd, reduceEq, reduceLeDiff, reduceLE], by simp -implicitDefEqProofs only [go_sem, ↓reduceIte, reduceEqDiff, Int.reduceLT, Nat.reduceLT, reduceToNat, reducePow, reduceAdd, reduceEq, reduceLeDiff, reduceLE, g1], by simp -implicitDefEqProofs only [go_sem, ↓reduceIte, reduceEqDiff, Int.reduceLT, Nat.reduceLT, reduceToNat, reducePow, reduceAdd, reduceEq, reduceLeDiff, reduceLE], by simp -implicitDefEqProofs only [go_sem, ↓reduceIte, reduceEqDiff, Int.reduceLT, Nat.reduceLT, reduceToNat, reducePow, reduceAdd, reduceEq, reduceLeDiff, reduceLE], ⟨fun _ => ?_, fun _ => rfl⟩, fun _ => ⟨_, ?_, ?_, o4⟩, Wb.tr f3 f4⟩
          · rw [htk]
            intro y hy
            rcases List.mem_append.1 hy with hy | hy
            · exact h1 y hy
            · simp at hy; subst hy; exact hyes
          · rw [hys, htk, List.flatMap_append]
            simp
          · have := wr_len wr_text trivial hyes
            rw [List.length_append]; omega
    · have i1 : ¬ (i : Int) < (l.length : Int) := by omega
      have hil : i = l.length := by omega
      rw [hil, List.take_length] at hok hys
      simp -implicitDefEqProofs only [go_sem, ↓reduceIte, reduceEqDiff, Int.reduceLT, Nat.reduceLT, reduceToNat, reducePow, reduceAdd, reduceEq, reduceLeDiff, reduceLE, g0, g1, g6, g7, i1]
      refine ⟨u3, r, rfl, ⟨fun h => ⟨by omega, hok.1 h⟩, fun h => hok.2 h.2⟩, fun h => ?_, f3⟩
      obtain ⟨ys, rfl, _, o3⟩ := hys h
      rw [List.append_assoc] at o3; exact o3
theorem refitem_calls {U : Nat → Prop} {x : MItem} {cs : List Value} (hx : kItem.rep U w x cs) (hU : ∀ k, U k → k < lo) (ho : OwnI 5 .u8 lo w v xs) (hlo : lo ≤ w.heap.size) (hb : xs.length + 526878 ≤ top) :
    callK Tryz.prog 64 #[v, .agg cs.toArray] w (RefOut w lo xs (citem.wr x) (citem.ok x)) := by
  refine callK_of Tryz.func64 c64 r64 (by exact Nat.le_of_ble_eq_true rfl) ?_
  rw [m64]
  obtain ⟨A, c, B, d, rfl, hi, hl1, hc1, he1, hl2, hc2, he2⟩ := kItem_cases hx
  obtain ⟨i0, i1⟩ := unU32 hi
  obtain ⟨n, hn⟩ := Int.eq_ofNat_of_zero_le i0
  have hn2 : x.id.toNat = n := by omega
  have e1 : IntKind.i64.wrap x.id = (n : Int) := by rw [hn]; exact i64_nat (by omega) (by omega)
  have kA : Keep w (w.alloc (.cells #[.int .u32 x.id, .slice A x.vec.length c, .slice B x.tags.length d] 64)) := Fx.alloc _ w _
  have hbx : Blk _ _ _ _ := Blk.new w 64 #[.int .u32 x.id, .slice A x.vec.length c, .slice B x.tags.length d]
  simp -implicitDefEqProofs only [go_sem, ↓reduceIte, reduceEqDiff, Int.reduceLT, Nat.reduceLT, reduceToNat, reducePow, reduceAdd, reduceEq, reduceLeDiff, reduceLE, hbx.cell, e1]
  have ho1 := ho.fx kA (fun _ _ x => x)
  have s1 := kA.size
  have he1 := he1.keep kA
  have he2 := he2.keep kA
  generalize w.alloc (.cells #[.int .u32 x.id, .slice A x.vec.length c, .slice B x.tags.length d] 64) = w1 at *
  generalize w.heap.size = bx at *
  have hcok : citem.ok x ↔ cvec.ok x.vec ∧ ctexts.ok x.tags := by
    show (cu32.ok x.id ∧ cvec.ok x.vec ∧ ctexts.ok x.tags) ∧ _ ↔ _
    exact ⟨fun h => h.1.2, fun h => ⟨⟨⟨i0, i1⟩, h⟩, rfl⟩⟩
  have hcwr : citem.wr x = vput n ++ (cvec.wr x.vec ++ ctexts.wr x.tags) := by
    show vput x.id.toNat ++ _ = _
    rw [hn2]; rfl
  rw [hcok, hcwr]
  refine (refnum_calls (n := n) (by omega)).mono ?_
  rintro u w2 ⟨hu, k2⟩
  have hvn := vput_u64 (n := n) (by omega)
  simp -implicitDefEqProofs only [go_sem, ↓reduceIte, reduceEqDiff, Int.reduceLT, Nat.reduceLT, reduceToNat, reducePow, reduceAdd, reduceEq, reduceLeDiff, reduceLE]
  refine put_behind ho1 (by omega) k2 hu (by unfold top at hb ⊢; omega) ?_
  intro v3 w3 o3 f3
  have s3 := f3.size
  have hbx3 := f3.blk hbx (Wb.not hbx (by decide))
  have hl3 : (xs ++ vput n).length ≤ xs.length + 10 := by rw [List.length_append]; omega
  simp -implicitDefEqProofs only [go_sem, ↓reduceIte, reduceEqDiff, Int.reduceLT, Nat.reduceLT, reduceToNat, reducePow, reduceAdd, reduceEq, reduceLeDiff, reduceLE, hbx3.cell]
  refine (refvec_calls (by simp only [maxLen] at hc1; omega) (he1.fx f3 fun k hk => Wb.low (hU k hk)) hU o3 (by omega) (by unfold top at hb ⊢; omega)).mono ?_
  rintro v4 w4 ⟨u4, r4, rfl, hok4, ho4, f4⟩
  have hbx4 := f4.blk hbx3 (Wb.not hbx3 (by decide))
  have f34 := Wb.tr f3 f4
  have s4 := f4.size
  cases r4 with
  | false =>
    simp -implicitDefEqProofs only [go_sem, ↓reduceIte, reduceEqDiff, Int.reduceLT, Nat.reduceLT, reduceToNat, reducePow, reduceAdd, reduceEq, reduceLeDiff, reduceLE]
    exact ⟨u4, false, rfl, ⟨fun h => (by cases h), fun h => hok4.2 h.1⟩, fun h => (by cases h), Wb.ktr kA f34⟩
  | true =>
    have o4 := ho4 rfl
    have l4 : (cvec.wr x.vec).length ≤ 1290 := wr_len wr_vec (fun n hn => (hok4.1 rfl).2 n hn) (hok4.1 rfl)
    have hl4 : (xs ++ vput n ++ cvec.wr x.vec).length ≤ xs.length + 1300 := by rw [List.length_append]; omega
    simp -implicitDefEqProofs only [go_sem, ↓reduceIte, reduceEqDiff, Int.reduceLT, Nat.reduceLT, reduceToNat, reducePow, reduceAdd, reduceEq, reduceLeDiff, reduceLE, hbx4.cell]
    refine (reftexts_calls (by simp only [maxLen] at hc2; omega) (he2.fx f34 fun k hk => Wb.low (hU k hk)) hU o4 (by omega) (by unfold top at hb ⊢; omega)).mono ?_
    rintro v5 w5 ⟨u5, r5, rfl, hok5, ho5, f5⟩
    simp -implicitDefEqProofs only [go_sem, ↓reduceIte, reduceEqDiff, Int.reduceLT, Nat.reduceLT, reduceToNat, reducePow, reduceAdd, reduceEq, reduceLeDiff, reduceLE]
    refine ⟨u5, r5, rfl, ⟨fun h => ⟨hok4.1 rfl, hok5.1 h⟩, fun h => hok5.2 h.2⟩, fun h => ?_, Wb.ktr kA (Wb.tr f34 f5)⟩
    have := ho5 h
    simp only [List.append_assoc] at this
    exact this
theorem refchanges_calls {U : Nat → Prop} {A : Option Addr} {c : Nat} {l : List MChange} (hl : l.length ≤ 9223372036854775807) (he : Elems kChange U w A l) (hU : ∀ k, U k → k < lo) (ho : OwnI 5 .u8 lo w v xs) (hlo : lo ≤ w.heap.size) (hb : xs.length + 67441674 ≤ top) :
    callK Tryz.prog 38 #[v, .slice A l.length c] w (RefOut w lo xs (cchanges.wr l) (cchanges.ok l)) := by
  refine callK_of Tryz.func38 c38 r38 (by exact Nat.le_of_ble_eq_true rfl) ?_
  rw [m38]
  by_cases hbig : (128 : Int) < (l.length : Int)
  · simp -implicitDefEqProofs only [go_sem, ↓reduceIte, reduceEqDiff, Int.reduceLT, Nat.reduceLT, reduceToNat, reducePow, reduceAdd, reduceEq, reduceLeDiff, reduceLE, hbig]
    exact ⟨v, false, rfl, ⟨fun h => (by cases h), fun h => by have : l.length ≤ 128 := h.1; omega⟩, fun h => (by cases h), Fx.refl _ _⟩
  · simp -implicitDefEqProofs only [go_sem, ↓reduceIte, reduceEqDiff, Int.reduceLT, Nat.reduceLT, reduceToNat, reducePow, reduceAdd, reduceEq, reduceLeDiff, reduceLE, hbig]
    refine (refnum_calls (n := l.length) (by omega)).mono ?_
    rintro u w1 ⟨hu, k1⟩
    have hv := vput_u64 (n := l.length) (by omega)
    simp -implicitDefEqProofs only [go_sem, ↓reduceIte, reduceEqDiff, Int.reduceLT, Nat.reduceLT, reduceToNat, reducePow, reduceAdd, reduceEq, reduceLeDiff, reduceLE]
    refine put_behind ho hlo k1 hu (by unfold top at hb ⊢; omega) ?_
    intro v2 w2 o2 f2
    simp -implicitDefEqProofs only [go_sem, ↓reduceIte, reduceEqDiff, Int.reduceLT, Nat.reduceLT, reduceToNat, reducePow, reduceAdd, reduceEq, reduceLeDiff, reduceLE]
    refine loop_intro (fun q f w' => ∃ (i : Nat) (u : Value) (ys : List Int), q = l.length - i ∧ i ≤ l.length ∧ f 0 = u ∧ f 1 = .slice A l.length c ∧ f 6 = .int .i64 i ∧ (∀ x ∈ l.take i, cchange.ok x) ∧ ys = (xs ++ vput l.length) ++ (l.take i).flatMap cchange.wr ∧ ys.length ≤ xs.length + 10 + i * 526888 ∧ OwnI 5 .u8 lo w' u ys ∧ Fx (Wb 5 w lo) w w') l.length
      ⟨0, v2, _, rfl, by omega, by simp -implicitDefEqProofs only [go_sem, ↓reduceIte, reduceEqDiff, Int.reduceLT, Nat.reduceLT, reduceToNat, reducePow, reduceAdd, reduceEq, reduceLeDiff, reduceLE], by simp -implicitDefEqProofs only [go_sem, ↓reduceIte, reduceEqDiff, Int.reduceLT, Nat.reduceLT, reduceToNat, reducePow, reduceAdd, reduceEq, reduceLeDiff, reduceLE], by simp -implicitDefEqProofs only [go_sem, ↓reduceIte, reduceEqDiff, Int.reduceLT, Nat.reduceLT, reduceToNat, reducePow, reduceAdd, reduceEq, reduceLeDiff, reduceLE]; rfl, by simp, by simp, by rw [List.length_append]; omega, o2, f2⟩ ?_
    rintro q f w3 ⟨i, u3, ys, rfl, hi, g0, g1, g6, hok, hys, hyl, o3, f3⟩
    have s3 := f3.size
    by_cases hlt : i < l.length
    · have i0 : (0 : Int) ≤ (i : Int) := by omega
      have i1 : (i : Int) < (l.length : Int) := by omega
      have en : IntKind.i64.wrap ((i : Int) + 1) = ((i + 1 : Nat) : Int) := i64_nat (by omega) (by omega)
      obtain ⟨x, ex⟩ : ∃ x, l[i]? = some x := ⟨_, List.getElem?_eq_getElem hlt⟩
      have hxm := List.mem_of_getElem? ex
      have htk : l.take (i + 1) = l.take i ++ [x] := by
        rw [List.take_succ_eq_append_getElem hlt]
        rw [List.getElem?_eq_getElem hlt] at ex
        cases ex; rfl
      have he3 := he.fx f3 fun k hk => Wb.low (hU k hk)
      obtain ⟨ad, rfl, hU3, cs, hrx, hcx⟩ := he3 i x ex
      obtain ⟨cs, rfl, hix⟩ := kChange_cases hrx
      obtain ⟨A1, c1, B1, d1, rfl, hi1, hl1, hc1, he1, hl2, hc2, he2⟩ := kItem_cases hix
      obtain ⟨n0, n1⟩ := unU32 hi1
      have e4 : kChange.sz = 4 := rfl
      rw [e4] at hcx
      have facts : ∀ (w' : World), Fx (Wb 5 w3 lo) w3 w' → w'.cell? (ad.add (i * 4)) = some (.bool x.gone) ∧ w'.cell? ⟨(ad.add (i * 4)).block, (ad.add (i * 4)).off + 1, none⟩ = some (.int .u32 x.item.id) ∧
          w'.cell? ⟨(ad.add (i * 4)).block, (ad.add (i * 4)).off + 2, none⟩ = some (.slice A1 x.item.vec.length c1) ∧ w'.cell? ⟨(ad.add (i * 4)).block, (ad.add (i * 4)).off + 3, none⟩ = some (.slice B1 x.item.tags.length d1) ∧
          ldV Tryz.prog w' 64 (.pointer (some ⟨(ad.add (i * 4)).block, (ad.add (i * 4)).off + 1, none⟩)) = some (.agg #[.int .u32 x.item.id, .slice A1 x.item.vec.length c1, .slice B1 x.item.tags.length d1]) := by
        intro w' f'
        have kx := hcx.ext (w' := w') (fun hlt => f'.block _ hlt (Wb.low (by rw [add_block]; exact hU _ hU3)))
        refine ⟨by have := kx 0 _ rfl; rwa [add_zero'] at this, ?_, ?_, ?_, ?_⟩
        · have := kx 1 _ rfl; simp only [go_sem] at this; exact this
        · have := kx 2 _ rfl; simp only [go_sem] at this; exact this
        · have := kx 3 _ rfl; simp only [go_sem] at this; exact this
        · have := ldV_agg (P := Tryz.prog) sh64 (cs := [.int .u32 x.item.id, .slice A1 x.item.vec.length c1, .slice B1 x.item.tags.length d1]) rfl (kx.drop 1)
          simp only [go_sem] at this
          exact this
      obtain ⟨y0, y1, y2, y3, y4⟩ := facts w3 (Fx.refl _ _)
      simp -implicitDefEqProofs only [go_sem, ↓reduceIte, reduceEqDiff, Int.reduceLT, Nat.reduceLT, reduceToNat, reducePow, reduceAdd, reduceEq, reduceLeDiff, reduceLE, g0, g1, g6, i0, i1, y0]
      refine (refflag_calls x.gone).mono ?_
      rintro u4 w4 ⟨hu4, k4⟩
      have hfl : (cflag.wr x.gone).length ≤ 10 := by
        have : cflag.wr x.gone = vput (if x.gone = true then 1 else 0) := by cases x.gone <;> rfl
        rw [this]
        exact vput_u64 (by split <;> decide)
      simp -implicitDefEqProofs only [go_sem, ↓reduceIte, reduceEqDiff, Int.reduceLT, Nat.reduceLT, reduceToNat, reducePow, reduceAdd, reduceEq, reduceLeDiff, reduceLE, g0]
      refine put_behind o3 (by omega) k4 hu4 (by unfold top at hb ⊢; omega) ?_
      intro v5 w5 o5 f5
      have s5 := f5.size
      obtain ⟨p0, p1, p2, p3, p4⟩ := facts w5 f5
      have hl5 : (ys ++ cflag.wr x.gone).length ≤ ys.length + 10 := by rw [List.length_append]; omega
      obtain ⟨gone, item⟩ := x
      simp only at p0 p1 p2 p3 p4 n0 n1 hi1 hl1 hc1 he1 hl2 hc2 he2 hl5 o5 hix
      cases gone with
      | true =>
        obtain ⟨n, hn⟩ := Int.eq_ofNat_of_zero_le n0
        have hn2 : item.id.toNat = n := by omega
        have e1 : IntKind.i64.wrap item.id = (n : Int) := by rw [hn]; exact i64_nat (by omega) (by omega)
        simp -implicitDefEqProofs only [go_sem, ↓reduceIte, reduceEqDiff, Int.reduceLT, Nat.reduceLT, reduceToNat, reducePow, reduceAdd, reduceEq, reduceLeDiff, reduceLE, g1, g6, i0, i1, p0, p1, e1, Nat.add_assoc]
        refine (refnum_calls (n := n) (by omega)).mono ?_
        rintro u6 w6 ⟨hu6, k6⟩
        have hvn := vput_u64 (n := n) (by omega)
        simp -implicitDefEqProofs only [go_sem, ↓reduceIte, reduceEqDiff, Int.reduceLT, Nat.reduceLT, reduceToNat, reducePow, reduceAdd, reduceEq, reduceLeDiff, reduceLE]
        refine put_behind o5 (by omega) k6 hu6 (by unfold top at hb ⊢; omega) ?_
        intro v7 w7 o7 f7
        obtain ⟨y0, y1, y2, y3, y4⟩ := facts w7 (Wb.tr f5 f7)
        simp only at y0 y1 y2 y3 y4
        have ff := Wb.tr f3 (Wb.tr f5 f7)
        have hl7 : (ys ++ cflag.wr true ++ vput n).length ≤ ys.length + 20 := by simp only [List.length_append] at hl5 ⊢; omega
        have cok : cchange.ok ⟨true, item⟩ ↔ item.vec = [] ∧ item.tags = [] := by
          show (cflag.ok true ∧ cu32.ok item.id ∧ (⟨item.id, [], []⟩ : MItem) = item) ∧ _ ↔ _
          obtain ⟨id, vec, tags⟩ := item
          simp only [MItem.mk.injEq, true_and]
          exact ⟨fun h => ⟨h.1.2.2.1.symm, h.1.2.2.2.symm⟩, fun h => ⟨⟨cflag_ok _, ⟨n0, n1⟩, h.1.symm, h.2.symm⟩, trivial⟩⟩
        have cwr : cchange.wr ⟨true, item⟩ = cflag.wr true ++ vput n := by
          show cflag.wr true ++ vput item.id.toNat = _
          rw [hn2]
        by_cases q1 : 0 < item.vec.length
        · have z1 : (0 : Int) < (item.vec.length : Int) := by omega
          simp -implicitDefEqProofs only [go_sem, ↓reduceIte, reduceEqDiff, Int.reduceLT, Nat.reduceLT, reduceToNat, reducePow, reduceAdd, reduceEq, reduceLeDiff, reduceLE, g1, g6, i0, i1, y2, z1, Nat.add_assoc]
          exact ⟨v7, false, rfl, ⟨fun h => (by cases h), fun h => by have := (cok.1 (h.2 _ hxm)).1; rw [this] at q1; simp at q1⟩, fun h => (by cases h), ff⟩
        · have z1 : ¬ (0 : Int) < (item.vec.length : Int) := by omega
          by_cases q2 : 0 < item.tags.length
          · have z2 : (0 : Int) < (item.tags.length : Int) := by omega
            simp -implicitDefEqProofs only [go_sem, ↓reduceIte, reduceEqDiff, Int.reduceLT, Nat.reduceLT, reduceToNat, reducePow, reduceAdd, reduceEq, reduceLeDiff, reduceLE, g1, g6, i0, i1, y2, y3, z1, z2, Nat.add_assoc]
            exact ⟨v7, false, rfl, ⟨fun h => (by cases h), fun h => by have := (cok.1 (h.2 _ hxm)).2; rw [this] at q2; simp at q2⟩, fun h => (by cases h), ff⟩
          · have z2 : ¬ (0 : Int) < (item.tags.length : Int) := by omega
            simp -implicitDefEqProofs only [go_sem, ↓reduceIte, reduceEqDiff, Int.reduceLT, Nat.reduceLT, reduceToNat, reducePow, reduceAdd, reduceEq, reduceLeDiff, reduceLE, g1, g6, i0, i1, y2, y3, z1, z2, en, Nat.add_assoc]
            refine ⟨l.length - (i + 1), by omega, i + 1, v7, _, rfl, by omega, by simp -implicitDefEqProofs only [go_sem, ↓reduceIte, reduceEqDiff, Int.reduceLT, Nat.reduceLT, reduceToNat, reducePow, reduceAdd, reduceEq, reduceLeDiff, reduceLE], by simp -implicitDefEqProofs only [go_sem, ↓reduceIte, reduceEqDiff, Int.reduceLT, Nat.reduceLT, reduceToNat, reducePow, reduceAdd, reduceEq, reduceLeDiff, reduceLE, g1], by simp -implicitDefEqProofs only [go_sem, ↓reduceIte, reduceEqDiff, Int.reduceLT, Nat.reduceLT, reduceToNat, reducePow, reduceAdd, reduceEq, reduceLeDiff, reduceLE], ?_, ?_, ?_, o7, ff⟩
            · rw [htk]
              intro y hy
              rcases List.mem_append.1 hy with hy | hy
              · exact hok y hy
              · simp at hy
                subst hy
                exact cok.2 ⟨List.eq_nil_of_length_eq_zero (by omega), List.eq_nil_of_length_eq_zero (by omega)⟩
            · rw [hys, htk, List.flatMap_append]
              simp [cwr]
            · omega
      | false =>
        simp -implicitDefEqProofs only [go_sem, ↓reduceIte, reduceEqDiff, Int.reduceLT, Nat.reduceLT, reduceToNat, reducePow, reduceAdd, reduceEq, reduceLeDiff, reduceLE, g1, g6, i0, i1, p0, p4, Nat.add_assoc]
        refine (refitem_calls (kItem.fx hix (f5) fun k hk => Wb.low (hU k hk)) hU o5 (by omega) (by unfold top at hb ⊢; omega)).mono ?_
        rintro v6 w6 ⟨u6, r6, rfl, hok6, ho6, f6⟩
        have ff := Wb.tr f3 (Wb.tr f5 f6)
        have cok : cchange.ok ⟨false, item⟩ ↔ citem.ok item := by
          show (cflag.ok false ∧ citem.ok item) ∧ _ ↔ _
          exact ⟨fun h => h.1.2, fun h => ⟨⟨cflag_ok _, h⟩, rfl⟩⟩
        have cwr : cchange.wr ⟨false, item⟩ = cflag.wr false ++ citem.wr item := rfl
        cases r6 with
        | false =>
          simp -implicitDefEqProofs only [go_sem, ↓reduceIte, reduceEqDiff, Int.reduceLT, Nat.reduceLT, reduceToNat, reducePow, reduceAdd, reduceEq, reduceLeDiff, reduceLE]
          exact ⟨v5, false, rfl, ⟨fun h => (by cases h), fun h => hok6.2 (cok.1 (h.2 _ hxm))⟩, fun h => (by cases h), ff⟩
        | true =>
          simp -implicitDefEqProofs only [go_sem, ↓reduceIte, reduceEqDiff, Int.reduceLT, Nat.reduceLT, reduceToNat, reducePow, reduceAdd, reduceEq, reduceLeDiff, reduceLE, g1, g6, en]
          have l6 : (citem.wr item).length ≤ 526878 := wr_len wr_item ⟨⟨n0, n1⟩, fun n hn => ((hok6.1 rfl).1.2.1).2 n hn⟩ (hok6.1 rfl)
          refine ⟨l.length - (i + 1), by omega, i + 1, u6, _, rfl, by omega, by simp -implicitDefEqProofs only [go_sem, ↓reduceIte, reduceEqDiff, Int.reduceLT, Nat.reduceLT, reduceToNat, reducePow, reduceAdd, reduceEq, reduceLeDiff, reduceLE], by simp -implicitDefEqProofs only [go_sem, ↓reduceIte, reduceEqDiff, Int.reduceLT, Nat.reduceLT, reduceToNat, reducePow, reduceAdd, reduceEq, reduceLeDiff, reduceLE, g1], by simp -implicitDefEqProofs only [go_sem, ↓reduceIte, reduceEqDiff, Int.reduceLT, Nat.reduceLT, reduceToNat, reducePow, reduceAdd, reduceEq, reduceLeDiff, reduceLE], ?_, ?_, ?_, ho6 rfl, ff⟩
          · rw [htk]
            intro y hy
            rcases List.mem_append.1 hy with hy | hy
            · exact hok y hy
            · simp at hy
              subst hy
              exact cok.2 (hok6.1 rfl)
          · rw [hys, htk, List.flatMap_append]
            simp [cwr]
          · rw [List.length_append]; omega
    · have i1 : ¬ (i : Int) < (l.length : Int) := by omega
      have hil : i = l.length := by omega
      rw [hil, List.take_length] at hok hys
      simp -implicitDefEqProofs only [go_sem, ↓reduceIte, reduceEqDiff, Int.reduceLT, Nat.reduceLT, reduceToNat, reducePow, reduceAdd, reduceEq, reduceLeDiff, reduceLE, g0, g1, g6, i1]
      refine ⟨u3, true, rfl, ⟨fun _ => ⟨by omega, hok⟩, fun _ => rfl⟩, fun _ => ?_, f3⟩
      rw [hys, List.append_assoc] at o3; exact o3
end
end Go.Proofs.YtnlibeaainbipaaGreat.F
