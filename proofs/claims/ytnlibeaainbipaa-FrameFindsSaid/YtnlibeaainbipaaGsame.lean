/- The document's comparisons: of numbers, texts, items and changes. Conditions: both are data of their kind. -/
import Derived.Test.YtnlibeaainbipaaGread
import Derived.Test.YtnlibeaainbipaaGkind
namespace Go.Proofs.Ytnlibeaainbipaa.M
/-- Either is so, as a Bool. -/
def Says (p : Prop) (v : Value) : Prop := ∃ q : Bool, v = .bool q ∧ (q = true ↔ p)
theorem says_true {p : Prop} (h : p) : Says p (.bool true) := ⟨true, rfl, by simp [h]⟩
theorem says_false {p : Prop} (h : ¬ p) : Says p (.bool false) := ⟨false, rfl, by simp [h]⟩
theorem lists_eq {α : Type} {xs ys : List α} (hl : xs.length = ys.length) (h : ∀ j, j < xs.length → xs[j]? = ys[j]?) : xs = ys := by
  apply List.ext_getElem? 
  intro j
  by_cases hj : j < xs.length
  · exact h j hj
  · rw [List.getElem?_eq_none (by omega), List.getElem?_eq_none (by omega)]
end Go.Proofs.Ytnlibeaainbipaa.M
namespace Go.Proofs.Ytnlibeaainbipaa.F
open Go.RowKit Go.Proofs.Ytnlibeaainbipaa.M Go.Proofs.Ytnlibeaainbipaa.V
set_option linter.unusedSimpArgs false
set_option linter.unusedVariables false
set_option maxRecDepth 20000

theorem elem_one {kd : IntKind} {U : Nat → Prop} {w : World} {A : Option Addr} {xs : List Int} (h : Elems (Kind.int kd) U w A xs) {i : Nat} {x : Int} (hi : xs[i]? = some x) : ∃ ad, A = some ad ∧ w.cell? (ad.add (i * 1)) = some (.int kd x) := by
  obtain ⟨ad, rfl, _, vs, ⟨rfl, _⟩, hc⟩ := h i x hi
  have := hc 0 _ rfl
  rw [add_zero'] at this
  exact ⟨ad, rfl, this⟩
theorem elem_str {U : Nat → Prop} {w : World} {A : Option Addr} {xs : List ByteArray} (h : Elems Kind.str U w A xs) {i : Nat} {x : ByteArray} (hi : xs[i]? = some x) : ∃ ad, A = some ad ∧ w.cell? (ad.add (i * 1)) = some (.string x) := by
  obtain ⟨ad, rfl, _, vs, ⟨rfl, _⟩, hc⟩ := h i x hi
  have := hc 0 _ rfl
  rw [add_zero'] at this
  exact ⟨ad, rfl, this⟩
theorem str_ne {p q : ByteArray} : (p.toList == q.toList) = true ↔ p = q := by
  rw [beq_iff_eq]
  refine ⟨fun h => ?_, fun h => by rw [h]⟩
  exact str_inj ((str_eq (nums_bs p) (nums_bs q)).1 (by rw [str_nums, str_nums]; exact h))

theorem sameInts_calls {U U' : Nat → Prop} {w : World} {A B : Option Addr} {c d : Nat} {xs ys : List Int} (hl : xs.length ≤ 9223372036854775807) (hx : Elems (Kind.int .i32) U w A xs) (hy : Elems (Kind.int .i32) U' w B ys) :
    callK Try.prog 23 #[.slice A xs.length c, .slice B ys.length d] w fun v w' => Says (xs = ys) v ∧ Keep w w' := by
  refine callK_of Try.func23 c23 r23 (by exact Nat.le_of_ble_eq_true rfl) ?_
  rw [m23]
  by_cases hlen : xs.length = ys.length
  case neg =>
    have z : ((xs.length : Int) != (ys.length : Int)) = true := by rw [bne_iff_ne]; omega
    simp -implicitDefEqProofs only [go_sem, seval, z]
    exact ⟨says_false fun e => hlen (by rw [e]), Fx.refl _ _⟩
  have z : ((xs.length : Int) != (ys.length : Int)) = false := by rw [hlen]; simp
  simp -implicitDefEqProofs only [go_sem, seval, z]
  refine loop_intro (fun q f w' => ∃ i : Nat, q = xs.length - i ∧ i ≤ xs.length ∧ f 0 = .slice A xs.length c ∧ f 1 = .slice B ys.length d ∧ f 5 = .int .i64 i ∧ (∀ j, j < i → xs[j]? = ys[j]?) ∧ Keep w w') xs.length
    ⟨0, rfl, by omega, by simp -implicitDefEqProofs only [go_sem, seval], by simp -implicitDefEqProofs only [go_sem, seval], by simp -implicitDefEqProofs only [go_sem, seval] <;> rfl, fun j hj => by omega, Fx.refl _ _⟩ ?_
  rintro q f w1 ⟨i, rfl, hi, g0, g1, g5, hpre, kk⟩
  by_cases hlt : i < xs.length
  · have i0 : (0 : Int) ≤ (i : Int) := by omega
    have i1 : (i : Int) < (xs.length : Int) := by omega
    have i2 : (i : Int) < (ys.length : Int) := by omega
    have en : IntKind.i64.wrap ((i : Int) + 1) = ((i + 1 : Nat) : Int) := i64_nat (by omega) (by omega)
    obtain ⟨x, ex⟩ : ∃ x, xs[i]? = some x := ⟨_, List.getElem?_eq_getElem hlt⟩
    obtain ⟨y, ey⟩ : ∃ y, ys[i]? = some y := ⟨_, List.getElem?_eq_getElem (by omega)⟩
    obtain ⟨ad, rfl, hcx⟩ := elem_one (hx.keep kk) ex
    obtain ⟨bd, rfl, hcy⟩ := elem_one (hy.keep kk) ey
    have hd : w1.drew.cell? (ad.add (i * 1)) = some (.int .i32 x) := hcx
    have hd2 : w1.drew.cell? (bd.add (i * 1)) = some (.int .i32 y) := hcy
    rw [Nat.mul_one] at hcx hcy hd hd2
    simp -implicitDefEqProofs only [go_sem, seval, g0, g1, g5, i0, i1, i2]
    refine seg_intro (fun w' => w'.cell? (ad.add i) = some (.int .i32 x)) hd ?_
    simp -implicitDefEqProofs only [go_sem, seval]
    refine hld_intro (.int .i32 x) hd (fun w' hw' => by simp -implicitDefEqProofs only [go_sem, seval, hw']; exact ⟨trivial, trivial⟩) ?_
    simp -implicitDefEqProofs only [go_sem, seval, g1, g5, i2, hd2]
    refine goE_intro hd ?_
    have kk1 : Keep w w1.drew := kk.tr (Fx.drew _ _)
    obtain ⟨t, ht⟩ : ∃ t, (x != y) = t := ⟨_, rfl⟩
    cases t with
    | true =>
      simp -implicitDefEqProofs only [go_sem, seval, ht]
      refine ⟨says_false fun e => ?_, kk1⟩
      rw [e, ey] at ex
      cases ex
      simp at ht
    | false =>
      have hxy : x = y := by
        first
        | (rw [bne_eq_false_iff_eq] at ht; exact ht)
        | exact str_ne.1 (by simpa using ht)
      simp -implicitDefEqProofs only [go_sem, seval, ht, g0, g1, g5, en]
      refine ⟨xs.length - (i + 1), by omega, i + 1, rfl, by omega, by simp -implicitDefEqProofs only [go_sem, seval, g0], by simp -implicitDefEqProofs only [go_sem, seval, g1], by simp -implicitDefEqProofs only [go_sem, seval], fun j hj => ?_, kk1⟩
      by_cases e : j = i
      · subst e; rw [ex, ey, hxy]
      · exact hpre j (by omega)
  · have i1 : ¬ (i : Int) < (xs.length : Int) := by omega
    simp -implicitDefEqProofs only [go_sem, seval, g0, g1, g5, i1]
    exact ⟨says_true (lists_eq hlen fun j hj => hpre j (by omega)), kk⟩
theorem sameTexts_calls {U U' : Nat → Prop} {w : World} {A B : Option Addr} {c d : Nat} {xs ys : List ByteArray} (hl : xs.length ≤ 9223372036854775807) (hx : Elems Kind.str U w A xs) (hy : Elems Kind.str U' w B ys) :
    callK Try.prog 24 #[.slice A xs.length c, .slice B ys.length d] w fun v w' => Says (xs = ys) v ∧ Keep w w' := by
  refine callK_of Try.func24 c24 r24 (by exact Nat.le_of_ble_eq_true rfl) ?_
  rw [m24]
  by_cases hlen : xs.length = ys.length
  case neg =>
    have z : ((xs.length : Int) != (ys.length : Int)) = true := by rw [bne_iff_ne]; omega
    simp -implicitDefEqProofs only [go_sem, seval, z]
    exact ⟨says_false fun e => hlen (by rw [e]), Fx.refl _ _⟩
  have z : ((xs.length : Int) != (ys.length : Int)) = false := by rw [hlen]; simp
  simp -implicitDefEqProofs only [go_sem, seval, z]
  refine loop_intro (fun q f w' => ∃ i : Nat, q = xs.length - i ∧ i ≤ xs.length ∧ f 0 = .slice A xs.length c ∧ f 1 = .slice B ys.length d ∧ f 5 = .int .i64 i ∧ (∀ j, j < i → xs[j]? = ys[j]?) ∧ Keep w w') xs.length
    ⟨0, rfl, by omega, by simp -implicitDefEqProofs only [go_sem, seval], by simp -implicitDefEqProofs only [go_sem, seval], by simp -implicitDefEqProofs only [go_sem, seval] <;> rfl, fun j hj => by omega, Fx.refl _ _⟩ ?_
  rintro q f w1 ⟨i, rfl, hi, g0, g1, g5, hpre, kk⟩
  by_cases hlt : i < xs.length
  · have i0 : (0 : Int) ≤ (i : Int) := by omega
    have i1 : (i : Int) < (xs.length : Int) := by omega
    have i2 : (i : Int) < (ys.length : Int) := by omega
    have en : IntKind.i64.wrap ((i : Int) + 1) = ((i + 1 : Nat) : Int) := i64_nat (by omega) (by omega)
    obtain ⟨x, ex⟩ : ∃ x, xs[i]? = some x := ⟨_, List.getElem?_eq_getElem hlt⟩
    obtain ⟨y, ey⟩ : ∃ y, ys[i]? = some y := ⟨_, List.getElem?_eq_getElem (by omega)⟩
    obtain ⟨ad, rfl, hcx⟩ := elem_str (hx.keep kk) ex
    obtain ⟨bd, rfl, hcy⟩ := elem_str (hy.keep kk) ey
    have hd : w1.drew.cell? (ad.add (i * 1)) = some (.string x) := hcx
    have hd2 : w1.drew.cell? (bd.add (i * 1)) = some (.string y) := hcy
    rw [Nat.mul_one] at hcx hcy hd hd2
    simp -implicitDefEqProofs only [go_sem, seval, g0, g1, g5, i0, i1, i2]
    refine seg_intro (fun w' => w'.cell? (ad.add i) = some (.string x)) hd ?_
    simp -implicitDefEqProofs only [go_sem, seval]
    refine hld_intro (.string x) hd (fun w' hw' => by simp -implicitDefEqProofs only [go_sem, seval, hw']; exact ⟨trivial, trivial⟩) ?_
    simp -implicitDefEqProofs only [go_sem, seval, g1, g5, i2, hd2]
    refine goE_intro hd ?_
    have kk1 : Keep w w1.drew := kk.tr (Fx.drew _ _)
    obtain ⟨t, ht⟩ : ∃ t, (!(x.toList == y.toList)) = t := ⟨_, rfl⟩
    cases t with
    | true =>
      simp -implicitDefEqProofs only [go_sem, seval, ht]
      refine ⟨says_false fun e => ?_, kk1⟩
      rw [e, ey] at ex
      cases ex
      simp at ht
    | false =>
      have hxy : x = y := by
        first
        | (rw [bne_eq_false_iff_eq] at ht; exact ht)
        | exact str_ne.1 (by simpa using ht)
      simp -implicitDefEqProofs only [go_sem, seval, ht, g0, g1, g5, en]
      refine ⟨xs.length - (i + 1), by omega, i + 1, rfl, by omega, by simp -implicitDefEqProofs only [go_sem, seval, g0], by simp -implicitDefEqProofs only [go_sem, seval, g1], by simp -implicitDefEqProofs only [go_sem, seval], fun j hj => ?_, kk1⟩
      by_cases e : j = i
      · subst e; rw [ex, ey, hxy]
      · exact hpre j (by omega)
  · have i1 : ¬ (i : Int) < (xs.length : Int) := by omega
    simp -implicitDefEqProofs only [go_sem, seval, g0, g1, g5, i1]
    exact ⟨says_true (lists_eq hlen fun j hj => hpre j (by omega)), kk⟩

theorem MItem.ext' {x y : MItem} (h1 : x.id = y.id) (h2 : x.vec = y.vec) (h3 : x.tags = y.tags) : x = y := by cases x; cases y; simp_all
theorem sameItem_calls {U U' : Nat → Prop} {w : World} {x y : MItem} {cs ds : List Value} (hx : kItem.rep U w x cs) (hy : kItem.rep U' w y ds) :
    callK Try.prog 34 #[.agg cs.toArray, .agg ds.toArray] w fun v w' => Says (x = y) v ∧ Keep w w' := by
  refine callK_of Try.func34 c34 r34 (by exact Nat.le_of_ble_eq_true rfl) ?_
  rw [m34]
  obtain ⟨A, c, B, d, rfl, _, hl1, hc1, he1, hl2, hc2, he2⟩ := kItem_cases hx
  obtain ⟨A', c', B', d', rfl, _, hl1', hc1', he1', hl2', hc2', he2'⟩ := kItem_cases hy
  have kk : Keep w ((w.alloc (.cells #[.int .u32 x.id, .slice A x.vec.length c, .slice B x.tags.length d] 58)).alloc (.cells #[.int .u32 y.id, .slice A' y.vec.length c', .slice B' y.tags.length d'] 58)) := (Fx.alloc _ _ _).tr (Fx.alloc _ _ _)
  have hb1 : Blk ((w.alloc (.cells #[.int .u32 x.id, .slice A x.vec.length c, .slice B x.tags.length d] 58)).alloc (.cells #[.int .u32 y.id, .slice A' y.vec.length c', .slice B' y.tags.length d'] 58)) w.heap.size 58 #[.int .u32 x.id, .slice A x.vec.length c, .slice B x.tags.length d] := (Blk.new w _ _).alloc _
  have hb2 : Blk ((w.alloc (.cells #[.int .u32 x.id, .slice A x.vec.length c, .slice B x.tags.length d] 58)).alloc (.cells #[.int .u32 y.id, .slice A' y.vec.length c', .slice B' y.tags.length d'] 58)) (w.heap.size + 1) 58 #[.int .u32 y.id, .slice A' y.vec.length c', .slice B' y.tags.length d'] := by
    have := Blk.new (w.alloc (.cells #[.int .u32 x.id, .slice A x.vec.length c, .slice B x.tags.length d] 58)) 58 #[.int .u32 y.id, .slice A' y.vec.length c', .slice B' y.tags.length d']
    rw [size_alloc] at this
    exact this
  by_cases hid : x.id = y.id
  case neg =>
    have z : (x.id == y.id) = false := by rw [beq_eq_false_iff_ne]; exact hid
    simp -implicitDefEqProofs only [go_sem, seval, z]
    exact ⟨says_false fun e => hid (by rw [e]), kk⟩
  have z : (x.id == y.id) = true := by rw [beq_iff_eq]; exact hid
  simp -implicitDefEqProofs only [go_sem, seval, z, size_alloc]
  generalize (w.alloc (.cells #[.int .u32 x.id, .slice A x.vec.length c, .slice B x.tags.length d] 58)).alloc (.cells #[.int .u32 y.id, .slice A' y.vec.length c', .slice B' y.tags.length d'] 58) = w2 at *
  refine (sameInts_calls (by simp only [maxLen] at hc1; omega) (he1.keep kk) (he1'.keep kk)).mono ?_
  rintro v w3 ⟨⟨q, rfl, hq⟩, k3⟩
  have hb1 := k3.blk hb1 (fun x => x)
  have hb2 := k3.blk hb2 (fun x => x)
  have kk := kk.tr k3
  cases q with
  | false =>
    simp -implicitDefEqProofs only [go_sem, seval]
    exact ⟨says_false fun e => (by have := hq.2 (by rw [e]); cases this), kk⟩
  | true =>
    simp -implicitDefEqProofs only [go_sem, seval, hb1.cell, hb2.cell]
    refine (sameTexts_calls (by simp only [maxLen] at hc2; omega) (he2.keep kk) (he2'.keep kk)).mono ?_
    rintro v w4 ⟨⟨q2, rfl, hq2⟩, k4⟩
    simp -implicitDefEqProofs only [go_sem, seval]
    refine ⟨⟨q2, rfl, ?_⟩, kk.tr k4⟩
    rw [hq2]
    exact ⟨fun e => MItem.ext' hid (hq.1 rfl) e, fun e => by rw [e]⟩
theorem sameChanges_calls {U U' : Nat → Prop} {w : World} {xs ys : List MChange} {v u : Value} (hx : kChanges.rep U w xs [v]) (hy : kChanges.rep U' w ys [u]) :
    callK Try.prog 22 #[v, u] w fun v w' => Says (xs = ys) v ∧ Keep w w' := by
  obtain ⟨A, c, e, hlx, hcx, hex⟩ := list_one hx
  cases e
  obtain ⟨B, d, e, hly, hcy, hey⟩ := list_one hy
  cases e
  have hl : xs.length ≤ 9223372036854775807 := by simp only [maxLen] at hcx; omega
  refine callK_of Try.func22 c22 r22 (by exact Nat.le_of_ble_eq_true rfl) ?_
  rw [m22]
  by_cases hlen : xs.length = ys.length
  case neg =>
    have z : ((xs.length : Int) != (ys.length : Int)) = true := by rw [bne_iff_ne]; omega
    simp -implicitDefEqProofs only [go_sem, seval, z]
    exact ⟨says_false fun e => hlen (by rw [e]), Fx.refl _ _⟩
  have z : ((xs.length : Int) != (ys.length : Int)) = false := by rw [hlen]; simp
  simp -implicitDefEqProofs only [go_sem, seval, z]
  refine loop_intro (fun q f w' => ∃ i : Nat, q = xs.length - i ∧ i ≤ xs.length ∧ f 0 = .slice A xs.length c ∧ f 1 = .slice B ys.length d ∧ f 5 = .int .i64 i ∧ (∀ j, j < i → xs[j]? = ys[j]?) ∧ Keep w w') xs.length
    ⟨0, rfl, by omega, by simp -implicitDefEqProofs only [go_sem, seval], by simp -implicitDefEqProofs only [go_sem, seval], by simp -implicitDefEqProofs only [go_sem, seval] <;> rfl, fun j hj => by omega, Fx.refl _ _⟩ ?_
  rintro q f w1 ⟨i, rfl, hi, g0, g1, g5, hpre, kk⟩
  by_cases hlt : i < xs.length
  · have i0 : (0 : Int) ≤ (i : Int) := by omega
    have i1 : (i : Int) < (xs.length : Int) := by omega
    have i2 : (i : Int) < (ys.length : Int) := by omega
    have en : IntKind.i64.wrap ((i : Int) + 1) = ((i + 1 : Nat) : Int) := i64_nat (by omega) (by omega)
    obtain ⟨x, ex⟩ : ∃ x, xs[i]? = some x := ⟨_, List.getElem?_eq_getElem hlt⟩
    obtain ⟨y, ey⟩ : ∃ y, ys[i]? = some y := ⟨_, List.getElem?_eq_getElem (by omega)⟩
    obtain ⟨ad, rfl, _, cs, hrx, hcx⟩ := hex.keep kk i x ex
    obtain ⟨bd, rfl, _, ds, hry, hcy⟩ := hey.keep kk i y ey
    obtain ⟨cs, rfl, hix⟩ := kChange_cases hrx
    obtain ⟨ds, rfl, hiy⟩ := kChange_cases hry
    have e4 : kChange.sz = 4 := rfl
    rw [e4] at hcx hcy
    have c0 : w1.cell? (ad.add (i * 4)) = some (.bool x.gone) := by have := hcx 0 _ rfl; rwa [add_zero'] at this
    have c1 : w1.cell? (bd.add (i * 4)) = some (.bool y.gone) := by have := hcy 0 _ rfl; rwa [add_zero'] at this
    have l0 : ldV Try.prog w1 58 (.pointer (some ((ad.add (i * 4)).add 1))) = some (.agg cs.toArray) := ldV_agg sh58 (kItem.len hix) (hcx.drop 1)
    have l1 : ldV Try.prog w1 58 (.pointer (some ((bd.add (i * 4)).add 1))) = some (.agg ds.toArray) := ldV_agg sh58 (kItem.len hiy) (hcy.drop 1)
    simp only [go_sem] at l0 l1
    simp -implicitDefEqProofs only [go_sem, seval, g0, g1, g5, i0, i1, i2]
    have hS : ∀ w', Keep w1 w' → w'.cell? (ad.add (i * 4)) = some (.bool x.gone) ∧ w'.cell? (bd.add (i * 4)) = some (.bool y.gone) ∧
        ldV Try.prog w' 58 (.pointer (some ⟨(ad.add (i * 4)).block, (ad.add (i * 4)).off + 1, none⟩)) = some (.agg cs.toArray) ∧ ldV Try.prog w' 58 (.pointer (some ⟨(bd.add (i * 4)).block, (bd.add (i * 4)).off + 1, none⟩)) = some (.agg ds.toArray) := by
      intro w' k'
      have kx := hcx.ext (w' := w') (fun hlt => k'.block _ hlt (fun x => x))
      have ky := hcy.ext (w' := w') (fun hlt => k'.block _ hlt (fun x => x))
      refine ⟨by have := kx 0 _ rfl; rwa [add_zero'] at this, by have := ky 0 _ rfl; rwa [add_zero'] at this, ?_, ?_⟩
      · have := ldV_agg (P := Try.prog) sh58 (kItem.len hix) (kx.drop 1)
        simp only [go_sem] at this
        exact this
      · have := ldV_agg (P := Try.prog) sh58 (kItem.len hiy) (ky.drop 1)
        simp only [go_sem] at this
        exact this
    refine seg_intro (fun w' => Keep w1 w') (Fx.drew _ _) ?_
    simp -implicitDefEqProofs only [go_sem, seval]
    refine hld_intro (.bool x.gone) (Fx.drew _ _) (fun w' hw' => by have := (hS w' hw').1; simp -implicitDefEqProofs only [go_sem, seval, this]; exact ⟨trivial, trivial⟩) ?_
    have hd1 := (hS w1.drew (Fx.drew _ _)).2.1
    have hd2 := (hS w1.drew (Fx.drew _ _)).2.2.1
    have hd3 := (hS w1.drew (Fx.drew _ _)).2.2.2
    simp -implicitDefEqProofs only [go_sem, seval, g1, g5, i2, hd1]
    refine goE_intro (Fx.drew _ _) ?_
    have kk1 : Keep w w1.drew := kk.tr (Fx.drew _ _)
    by_cases hg : x.gone = y.gone
    · have z1 : (x.gone == y.gone) = true := by rw [beq_iff_eq]; exact hg
      simp -implicitDefEqProofs only [go_sem, seval, z1, g0, g1, g5, i0, i1, i2]
      refine seg_intro (fun w' => Keep w1 w') (Fx.drew _ _) ?_
      simp -implicitDefEqProofs only [go_sem, seval, g0, g1, g5, i0, i1, i2]
      refine hld_intro (.agg cs.toArray) (Fx.drew _ _) (fun w' hw' => by have := (hS w' hw').2.2.1; simp -implicitDefEqProofs only [go_sem, seval, this]; exact ⟨trivial, trivial⟩) ?_
      simp -implicitDefEqProofs only [go_sem, seval, g0, g1, g5, i0, i1, i2, hd3]
      refine goE_intro (Fx.drew _ _) ?_
      simp -implicitDefEqProofs only [go_sem, seval]
      refine (sameItem_calls (kItem.keep (kItem.keep hix (Fx.drew _ _)) (Keep.rfl _)) (kItem.keep hiy (Fx.drew _ _))).mono ?_
      rintro v w2 ⟨⟨q, rfl, hq⟩, k2⟩
      have kk2 := kk1.tr k2
      cases q with
      | true =>
        have hxy : x = y := by
          have := hq.1 rfl
          cases x; cases y
          simp_all
        simp -implicitDefEqProofs only [go_sem, seval, g0, g1, g5, en]
        refine ⟨xs.length - (i + 1), by omega, i + 1, rfl, by omega, by simp -implicitDefEqProofs only [go_sem, seval, g0], by simp -implicitDefEqProofs only [go_sem, seval, g1], by simp -implicitDefEqProofs only [go_sem, seval], fun j hj => ?_, kk2⟩
        by_cases e : j = i
        · subst e; rw [ex, ey, hxy]
        · exact hpre j (by omega)
      | false =>
        simp -implicitDefEqProofs only [go_sem, seval]
        refine ⟨says_false fun e => ?_, kk2⟩
        rw [e, ey] at ex
        cases ex
        have := hq.2 rfl
        cases this
    · have z1 : (x.gone == y.gone) = false := by rw [beq_eq_false_iff_ne]; exact hg
      simp -implicitDefEqProofs only [go_sem, seval, z1, g0, g1, g5, i0, i1, i2]
      refine seg_intro (fun w' => Keep w1 w') (Fx.drew _ _) ?_
      simp -implicitDefEqProofs only [go_sem, seval, g0, g1, g5, i0, i1, i2]
      refine gdH_off rfl (Fx.drew _ _) ?_
      simp -implicitDefEqProofs only [go_sem, seval, g0, g1, g5, i0, i1, i2]
      refine gdE_off rfl (Fx.drew _ _) ?_
      simp -implicitDefEqProofs only [go_sem, seval, g0, g1, g5, i0, i1, i2]
      refine ⟨says_false fun e => ?_, kk1⟩
      rw [e, ey] at ex
      cases ex
      exact hg rfl
  · have i1 : ¬ (i : Int) < (xs.length : Int) := by omega
    simp -implicitDefEqProofs only [go_sem, seval, g0, g1, g5, i1]
    exact ⟨says_true (lists_eq hlen fun j hj => hpre j (by omega)), kk⟩
end Go.Proofs.Ytnlibeaainbipaa.F
