/- A table of uploads in memory: bringing, committing, aborting, leaving, how many bytes. Conditions: those of the table. -/
import Derived.Test.YtdnlnaeonhbfiaaStab
import Derived.Test.YtdnlnaeonhbfiaaGitem
namespace Go.Proofs.Ytdnlnaeonhbfiaa.M
theorem set_same {α : Type} : ∀ {l : List α} {i : Nat} {a : α}, l[i]? = some a → l.set i a = l
  | [], _, _, h => by simp at h
  | x :: l, 0, a, h => by cases h; rfl
  | x :: l, i + 1, a, h => by rw [List.set_cons_succ, set_same (by simpa using h)]
theorem filter_lt {α : Type} {p q : α → Bool} {x : α} : ∀ {l : List α}, (∀ y, q y = true → p y = true) → x ∈ l → p x = true → q x = false → (l.filter q).length < (l.filter p).length
  | [], _, hx, _, _ => by simp at hx
  | y :: l, h, hx, hp, hq => by
    have hle : (l.filter q).length ≤ (l.filter p).length := by
      clear hx
      induction l with
      | nil => simp
      | cons z l ih =>
        simp only [List.filter_cons]
        cases hqz : q z with
        | true => rw [if_pos rfl, if_pos (h z hqz)]; simp; exact ih
        | false =>
          simp only [Bool.false_eq_true, if_false]
          split
          · simp; omega
          · exact ih
    simp only [List.filter_cons]
    rcases List.mem_cons.1 hx with rfl | hx
    · rw [hp, hq]
      simp; omega
    · have ih := filter_lt h hx hp hq
      cases hqy : q y with
      | true => rw [if_pos rfl, if_pos (h y hqy)]; simp; exact ih
      | false =>
        simp only [Bool.false_eq_true, if_false]
        split
        · simp; omega
        · exact ih
theorem OwnI.slice' {e : TypeId} {kd : IntKind} {b : Nat} {w : World} {v : Value} {xs : List Int} (h : OwnI e kd b w v xs) : ∃ A c, v = .slice A xs.length c ∧ xs.length ≤ c ∧ c ≤ maxLen ∧ RdI w kd A xs := by
  obtain ⟨A, c, hv, hl, hr⟩ := h.slice
  refine ⟨A, c, hv, hl, ?_, hr⟩
  rcases h.2 with ⟨hv', _⟩ | ⟨g, cap, cur, hv', hb, hg, hc, hm, _⟩
  · rw [hv'] at hv
    injection hv with _ _ h3
    rw [← h3]; exact Nat.zero_le _
  · rw [hv'] at hv
    injection hv with _ _ h3
    rw [← h3]; exact hm
end Go.Proofs.Ytdnlnaeonhbfiaa.M
namespace Go.Proofs.Ytdnlnaeonhbfiaa.F
open Go.RowKit Go.Proofs.Ytdnlnaeonhbfiaa.M Go.Proofs.Ytdnlnaeonhbfiaa.V
set_option linter.unusedSimpArgs false
set_option linter.unusedVariables false
set_option maxRecDepth 20000

theorem rows_ne {R : List Row} (h : R.Pairwise RowNe) {i j : Nat} {r s : Row} (hi : R[i]? = some r) (hj : R[j]? = some s) (hne : i ≠ j) : RowNe r s := by
  obtain ⟨h1, e1⟩ := List.getElem?_eq_some_iff.1 hi
  obtain ⟨h2, e2⟩ := List.getElem?_eq_some_iff.1 hj
  rw [List.pairwise_iff_getElem] at h
  rcases Nat.lt_or_gt_of_ne hne with hl | hl
  · have := h i j h1 h2 hl
    rw [e1, e2] at this; exact this
  · have := h j i h2 h1 hl
    rw [e1, e2] at this; exact this.symm
theorem rows_set {R : List Row} (h : R.Pairwise RowNe) {i : Nat} {r' : Row} (hr : ∀ j s, j ≠ i → R[j]? = some s → RowNe r' s) : (R.set i r').Pairwise RowNe := by
  rw [List.pairwise_iff_getElem]
  intro a b ha hb hab
  rw [List.length_set] at ha hb
  simp only [List.getElem_set]
  by_cases h1 : i = a
  · subst h1
    rw [if_pos rfl, if_neg (by omega)]
    exact hr b _ (by omega) (List.getElem?_eq_getElem hb)
  · rw [if_neg h1]
    by_cases h2 : i = b
    · rw [if_pos h2]
      exact (hr a _ (fun e => h1 e.symm) (List.getElem?_eq_getElem ha)).symm
    · rw [if_neg h2]
      exact (List.pairwise_iff_getElem.1 h) a b ha hb hab
theorem TabR.put {w w' : World} {g m clock : Nat} {last : Int} {R : List Row} (h : TabR w g m clock last R) {i : Nat} {r r' : Row} (hi : R[i]? = some r) (hf : Fx (fun k => k = r.k ∨ r.v.ownBlock = some k) w w') (hU : UpB w' r') (e1 : r'.k = r.k) (e2 : r'.born = r.born) (e3 : r'.u.n = r.u.n)
    (e4 : r'.v.ownBlock = r.v.ownBlock ∨ ∃ b, r'.v.ownBlock = some b ∧ w.heap.size ≤ b) : TabR w' g m clock last (R.set i r') ∧ (∀ k, foot g m (R.set i r') k → foot g m R k ∨ w.heap.size ≤ k) := by
  have hr := List.mem_of_getElem? hi
  have hUr := h.ups r hr
  have hg : ¬ (g = r.k ∨ r.v.ownBlock = some g) := by
    rintro (e | e)
    · have h1 := hUr.1
      rw [← e] at h1
      have h1 : w.heap[g]? = _ := h1
      have h2 : w.heap[g]? = _ := h.box
      rw [h1] at h2; cases h2
    · exact hUr.2.ne h.box (by decide) e
  have hm : ¬ (m = r.k ∨ r.v.ownBlock = some m) := by
    rintro (e | e)
    · exact h.map.ne hUr.1 e
    · exact hUr.2.ne_map h.map e
  have hent : (R.set i r').map Row.ent = R.map Row.ent := by
    rw [List.map_set]
    refine set_same ?_
    rw [List.getElem?_map, hi]
    simp [Row.ent, e1, e2, e3]
  have hs : ∀ s ∈ R.set i r', s = r' ∨ ∃ j, j ≠ i ∧ R[j]? = some s := by
    intro s hs
    obtain ⟨j, hj⟩ := List.mem_iff_getElem?.1 hs
    by_cases e : i = j
    · subst e
      have hlt := (List.getElem?_eq_some_iff.1 hi).1
      rw [List.getElem?_set_self hlt] at hj
      cases hj; exact .inl rfl
    · rw [List.getElem?_set_ne e] at hj
      exact .inr ⟨j, fun e' => e e'.symm, hj⟩
  refine ⟨⟨hf.blk h.box hg, by rw [hent]; exact h.map.fx hf hm, ?_, ?_, ?_, ?_, h.last0⟩, ?_⟩
  · intro s hx
    rcases hs s hx with rfl | ⟨j, hj, hsj⟩
    · exact hU
    · have hn := rows_ne h.ne hsj hi hj
      have hUs := h.ups s (List.mem_of_getElem? hsj)
      refine hUs.fx hf ?_ ?_
      · rintro (e | e)
        · exact hn.2.1 e
        · exact hUr.2.ne hUs.1 (by decide) e
      · rintro k hk (e | e)
        · subst e
          exact hUs.2.ne hUr.1 (by decide) hk
        · exact hn.2.2.2 k hk e
  · intro s hx
    rcases hs s hx with rfl | ⟨j, hj, hsj⟩
    · rw [e2]; exact h.born r hr
    · exact h.born s (List.mem_of_getElem? hsj)
  · intro s hx
    rcases hs s hx with rfl | ⟨j, hj, hsj⟩
    · rw [e3]; exact h.nums r hr
    · exact h.nums s (List.mem_of_getElem? hsj)
  · refine rows_set h.ne fun j s hj hsj => ?_
    have hn := rows_ne h.ne hi hsj hj.symm
    have hUs := h.ups s (List.mem_of_getElem? hsj)
    refine ⟨by rw [e3]; exact hn.1, by rw [e1]; exact hn.2.1, by rw [e2]; exact hn.2.2.1, fun b hb hb' => ?_⟩
    rcases e4 with e | ⟨b', e, hlt⟩
    · rw [e] at hb; exact hn.2.2.2 b hb hb'
    · rw [e] at hb
      cases hb
      have := (hUs.2.lt hb'.symm).2
      omega
  · rintro k (rfl | rfl | ⟨s, hx, hk⟩)
    · exact .inl (.inl rfl)
    · exact .inl (.inr (.inl rfl))
    · rcases hs s hx with rfl | ⟨j, hj, hsj⟩
      · rcases hk with rfl | hk
        · exact .inl (.inr (.inr ⟨r, hr, .inl e1⟩))
        · rcases e4 with e | ⟨b', e, hlt⟩
          · exact .inl (.inr (.inr ⟨r, hr, .inr (by rw [← e]; exact hk)⟩))
          · rw [e] at hk
            cases hk
            exact .inr hlt
      · exact .inl (.inr (.inr ⟨s, List.mem_of_getElem? hsj, hk⟩))
/-- Some rows go. -/
theorem TabR.sub {w w' : World} {g m clock : Nat} {last : Int} {R R' : List Row} (h : TabR w g m clock last R) (hs : R'.Sublist R) (hf : Fx (fun k => k = m) w w') (hm : MapB w' m .u32 (R'.map Row.ent) clock) : TabR w' g m clock last R' ∧ (∀ k, foot g m R' k → foot g m R k) := by
  refine ⟨⟨hf.blk h.box (fun e => h.map.ne h.box e.symm), hm, fun r hr => ?_, fun r hr => h.born r (hs.subset hr), fun r hr => h.nums r (hs.subset hr), h.ne.sublist hs, h.last0⟩, ?_⟩
  · have hU := h.ups r (hs.subset hr)
    exact hU.fx hf (fun e => h.map.ne hU.1 e.symm) (fun k hk e => by
      have e : k = m := e
      exact hU.2.ne_map h.map (e ▸ hk))
  · rintro k (rfl | rfl | ⟨r, hr, hk⟩)
    · exact .inl rfl
    · exact .inr (.inl rfl)
    · exact .inr (.inr ⟨r, hs.subset hr, hk⟩)

section
variable {w : World} {g : Nat} {T : Tb} {Ft : Nat → Prop}
theorem chunk_calls (h : Tab w g T Ft) (hok : TbOk T) (owner n page : Int) {U : Nat → Prop} {A : Option Addr} {c : Nat} {b : List Int} (hbl : b.length ≤ 9223372036854775807) (he : Elems (Kind.int .u8) U w A b) (hU : ∀ k, U k → ¬ Ft k) :
    callK Try.prog 11 #[.pointer (some (At g 0)), .int .u64 owner, .int .u32 n, .int .u32 page, .slice A b.length c] w fun v w' => v = .int .i64 (tChunk T owner n page b).1 ∧ TabStep w w' g (tChunk T owner n page b).2 Ft := by
  obtain ⟨m, clock, R, hR, hT, rfl⟩ := id h
  have hstay : TabStep w w g T (foot g m R) := ⟨_, h, Fx.refl _ _, fun k hk => .inl hk⟩
  refine callK_of Try.func11 c11 r11 (by exact Nat.le_of_ble_eq_true rfl) ?_
  rw [m11]
  simp -implicitDefEqProofs only [go_sem, ↓reduceIte, Nat.reduceEqDiff, Int.reduceLT, not_false_eq_true, List.map_toArray, List.map_cons, List.map_nil, Option.isSome_some, Nat.reduceLT, Int.reduceToNat, Int.reducePow, Nat.reduceAdd, Int.toNat_natCast, Bool.not_true, Bool.not_false, Nat.mul_one, decide_true, decide_false, Bool.false_eq_true, List.getElem?_cons_zero, List.getElem?_cons_succ, Int.reduceEq, Option.map_some, Option.map_none, at_add, add_zero', Nat.zero_add, Nat.add_zero, Nat.zero_mul, List.getElem?_toArray, List.length_cons, List.length_nil, allOne_nil, allOne_cons, Bool.and_true, Bool.true_and, Nat.reduceLT, Nat.reduceLeDiff, Int.reduceLE, List.append_toArray, List.cons_append, List.nil_append, List.append_nil]
  refine (own_calls hR owner n).mono ?_
  rintro v w1 ⟨rfl, ⟨i, r, hi, hrn, hro, hfu, _, rfl⟩ | ⟨hfu, rfl⟩⟩
  · rw [hT] at hfu
    have hr := List.mem_of_getElem? hi
    have hUr := hR.ups r hr
    have q : (some (At r.k 0) == none) = false := rfl
    unfold tChunk
    rw [hfu]
    simp only
    simp -implicitDefEqProofs only [go_sem, ↓reduceIte, Nat.reduceEqDiff, Int.reduceLT, not_false_eq_true, List.map_toArray, List.map_cons, List.map_nil, Option.isSome_some, Nat.reduceLT, Int.reduceToNat, Int.reducePow, Nat.reduceAdd, Int.toNat_natCast, Bool.not_true, Bool.not_false, Nat.mul_one, decide_true, decide_false, Bool.false_eq_true, List.getElem?_cons_zero, List.getElem?_cons_succ, Int.reduceEq, Option.map_some, Option.map_none, at_add, add_zero', Nat.zero_add, Nat.add_zero, Nat.zero_mul, List.getElem?_toArray, List.length_cons, List.length_nil, allOne_nil, allOne_cons, Bool.and_true, Bool.true_and, Nat.reduceLT, Nat.reduceLeDiff, Int.reduceLE, List.append_toArray, List.cons_append, List.nil_append, List.append_nil]
    refine peqK_of Try.underlying65 ?_
    by_cases hp : page = 0 ∨ IntKind.u32.wrap (page - 1) ≠ r.u.page
    · rw [if_pos hp]
      by_cases hp0 : page = 0
      · have z : (page == 0) = true := by rw [beq_iff_eq]; exact hp0
        simp -implicitDefEqProofs only [go_sem, ↓reduceIte, Nat.reduceEqDiff, Int.reduceLT, not_false_eq_true, List.map_toArray, List.map_cons, List.map_nil, Option.isSome_some, Nat.reduceLT, Int.reduceToNat, Int.reducePow, Nat.reduceAdd, Int.toNat_natCast, Bool.not_true, Bool.not_false, Nat.mul_one, decide_true, decide_false, Bool.false_eq_true, List.getElem?_cons_zero, List.getElem?_cons_succ, Int.reduceEq, Option.map_some, Option.map_none, at_add, add_zero', Nat.zero_add, Nat.add_zero, Nat.zero_mul, List.getElem?_toArray, List.length_cons, List.length_nil, allOne_nil, allOne_cons, Bool.and_true, Bool.true_and, Nat.reduceLT, Nat.reduceLeDiff, Int.reduceLE, List.append_toArray, List.cons_append, List.nil_append, List.append_nil, q, z]
        exact ⟨trivial, hstay⟩
      · have z : (page == 0) = false := by rw [beq_eq_false_iff_ne]; exact hp0
        have z1 : (IntKind.u32.wrap (page - 1) != r.u.page) = true := by rw [bne_iff_ne]; rcases hp with e | e; exact absurd e hp0; exact e
        simp -implicitDefEqProofs only [go_sem, ↓reduceIte, Nat.reduceEqDiff, Int.reduceLT, not_false_eq_true, List.map_toArray, List.map_cons, List.map_nil, Option.isSome_some, Nat.reduceLT, Int.reduceToNat, Int.reducePow, Nat.reduceAdd, Int.toNat_natCast, Bool.not_true, Bool.not_false, Nat.mul_one, decide_true, decide_false, Bool.false_eq_true, List.getElem?_cons_zero, List.getElem?_cons_succ, Int.reduceEq, Option.map_some, Option.map_none, at_add, add_zero', Nat.zero_add, Nat.add_zero, Nat.zero_mul, List.getElem?_toArray, List.length_cons, List.length_nil, allOne_nil, allOne_cons, Bool.and_true, Bool.true_and, Nat.reduceLT, Nat.reduceLeDiff, Int.reduceLE, List.append_toArray, List.cons_append, List.nil_append, List.append_nil, q, z, hUr.1.cell, z1]
        exact ⟨trivial, hstay⟩
    · rw [if_neg hp]
      have z : (page == 0) = false := by rw [beq_eq_false_iff_ne]; exact fun e => hp (.inl e)
      have z1 : (IntKind.u32.wrap (page - 1) != r.u.page) = false := by rw [bne_eq_false_iff_eq]; exact Decidable.byContradiction fun e => hp (.inr e)
      obtain ⟨Au, cu, hv, hlu, hmu, hru⟩ := hUr.2.slice'
      have hub := hok.bs r.u (by rw [← hT]; exact List.mem_map_of_mem hr)
      have e1 : IntKind.i64.wrap (4096 - (r.u.b.length : Int)) = 4096 - (r.u.b.length : Int) := by rw [i64_w, w64_id (by omega) (by omega)]
      have hcell := hUr.1.cell
      have hcell2 := hcell 2
      rw [hv] at hcell2
      by_cases hl : 4096 < r.u.b.length + b.length
      · have z2 : 4096 - (r.u.b.length : Int) < (b.length : Int) := by omega
        rw [if_pos hl]
        have hcell3 := hcell 3
        simp -implicitDefEqProofs only [go_sem, ↓reduceIte, Nat.reduceEqDiff, Int.reduceLT, not_false_eq_true, List.map_toArray, List.map_cons, List.map_nil, Option.isSome_some, Nat.reduceLT, Int.reduceToNat, Int.reducePow, Nat.reduceAdd, Int.toNat_natCast, Bool.not_true, Bool.not_false, Nat.mul_one, decide_true, decide_false, Bool.false_eq_true, List.getElem?_cons_zero, List.getElem?_cons_succ, Int.reduceEq, Option.map_some, Option.map_none, at_add, add_zero', Nat.zero_add, Nat.add_zero, Nat.zero_mul, List.getElem?_toArray, List.length_cons, List.length_nil, allOne_nil, allOne_cons, Bool.and_true, Bool.true_and, Nat.reduceLT, Nat.reduceLeDiff, Int.reduceLE, List.append_toArray, List.cons_append, List.nil_append, List.append_nil, q, z, z1, hcell3, hcell2, e1, z2]
        exact ⟨trivial, hstay⟩
      · have z2 : ¬ 4096 - (r.u.b.length : Int) < (b.length : Int) := by omega
        rw [if_neg hl]
        have hcell3 := hcell 3
        simp -implicitDefEqProofs only [go_sem, ↓reduceIte, Nat.reduceEqDiff, Int.reduceLT, not_false_eq_true, List.map_toArray, List.map_cons, List.map_nil, Option.isSome_some, Nat.reduceLT, Int.reduceToNat, Int.reducePow, Nat.reduceAdd, Int.toNat_natCast, Bool.not_true, Bool.not_false, Nat.mul_one, decide_true, decide_false, Bool.false_eq_true, List.getElem?_cons_zero, List.getElem?_cons_succ, Int.reduceEq, Option.map_some, Option.map_none, at_add, add_zero', Nat.zero_add, Nat.add_zero, Nat.zero_mul, List.getElem?_toArray, List.length_cons, List.length_nil, allOne_nil, allOne_cons, Bool.and_true, Bool.true_and, Nat.reduceLT, Nat.reduceLeDiff, Int.reduceLE, List.append_toArray, List.cons_append, List.nil_append, List.append_nil, q, z, z1, hcell3, hcell2, e1, z2]
        have hown := hUr.2
        rw [hv] at hown
        refine append_own ie8 (by decide) hown he.rd (by omega) (Nat.zero_le _) ?_
        intro v' w2 ho2 f2 hw2
        rw [← hv] at f2 hw2
        have hbx2 : Blk w2 r.k 67 #[.int .u64 r.u.owner, .string r.u.name, r.v, .int .u32 r.u.page] := f2.blk hUr.1 (fun e => hUr.2.ne hUr.1 (by decide) e.symm)
        have hne2 := ho2.ne hbx2 (by decide)
        have o2 : v'.oneCell' = true := by
          obtain ⟨_, _, e, _⟩ := ho2.slice
          rw [e]; rfl
        simp -implicitDefEqProofs only [go_sem, ↓reduceIte, Nat.reduceEqDiff, Int.reduceLT, not_false_eq_true, List.map_toArray, List.map_cons, List.map_nil, Option.isSome_some, Nat.reduceLT, Int.reduceToNat, Int.reducePow, Nat.reduceAdd, Int.toNat_natCast, Bool.not_true, Bool.not_false, Nat.mul_one, decide_true, decide_false, Bool.false_eq_true, List.getElem?_cons_zero, List.getElem?_cons_succ, Int.reduceEq, Option.map_some, Option.map_none, at_add, add_zero', Nat.zero_add, Nat.add_zero, Nat.zero_mul, List.getElem?_toArray, List.length_cons, List.length_nil, allOne_nil, allOne_cons, Bool.and_true, Bool.true_and, Nat.reduceLT, Nat.reduceLeDiff, Int.reduceLE, List.append_toArray, List.cons_append, List.nil_append, List.append_nil, hbx2.cell, hbx2.frozen, o2]
        have hbx3 := hbx2.set 2 v'
        have f3 : Fx (fun k => k = r.k ∨ r.v.ownBlock = some k) w2 (w2.setCell (At r.k 2) v') := Fx.set _ _ _ (.inl rfl)
        have f3o : Fx (only r.k) w2 (w2.setCell (At r.k 2) v') := Fx.set _ _ _ rfl
        have ho3 := ho2.fx f3o (fun k hk e => by have e : k = r.k := e; exact hne2 (e ▸ hk.symm))
        simp only [List.setIfInBounds_toArray, List.set_cons_succ, List.set_cons_zero] at hbx3
        generalize w2.setCell (At r.k 2) v' = w3 at *
        simp -implicitDefEqProofs only [go_sem, ↓reduceIte, Nat.reduceEqDiff, Int.reduceLT, not_false_eq_true, List.map_toArray, List.map_cons, List.map_nil, Option.isSome_some, Nat.reduceLT, Int.reduceToNat, Int.reducePow, Nat.reduceAdd, Int.toNat_natCast, Bool.not_true, Bool.not_false, Nat.mul_one, decide_true, decide_false, Bool.false_eq_true, List.getElem?_cons_zero, List.getElem?_cons_succ, Int.reduceEq, Option.map_some, Option.map_none, at_add, add_zero', Nat.zero_add, Nat.add_zero, Nat.zero_mul, List.getElem?_toArray, List.length_cons, List.length_nil, allOne_nil, allOne_cons, Bool.and_true, Bool.true_and, Nat.reduceLT, Nat.reduceLeDiff, Int.reduceLE, List.append_toArray, List.cons_append, List.nil_append, List.append_nil, hbx3.cell, hbx3.frozen]
        have hbx4 := hbx3.set 3 (.int .u32 (IntKind.u32.wrap (r.u.page + 1)))
        have f4 : Fx (fun k => k = r.k ∨ r.v.ownBlock = some k) w3 (w3.setCell (At r.k 3) (.int .u32 (IntKind.u32.wrap (r.u.page + 1)))) := Fx.set _ _ _ (.inl rfl)
        have f4o : Fx (only r.k) w3 (w3.setCell (At r.k 3) (.int .u32 (IntKind.u32.wrap (r.u.page + 1)))) := Fx.set _ _ _ rfl
        have hne3 := ho3.ne hbx3 (by decide)
        have ho4 := ho3.fx f4o (fun k hk e => by have e : k = r.k := e; exact hne3 (e ▸ hk.symm))
        simp only [List.setIfInBounds_toArray, List.set_cons_succ, List.set_cons_zero] at hbx4
        generalize w3.setCell (At r.k 3) (.int .u32 (IntKind.u32.wrap (r.u.page + 1))) = w4 at *
        have f24 : Fx (fun k => k = r.k ∨ r.v.ownBlock = some k) w1 w4 := ((f2.weaken (fun k _ e => .inr e.symm)).tr f3).tr f4
        obtain ⟨hR', hft⟩ := hR.put hi f24 (r' := ⟨⟨r.u.n, r.u.owner, r.u.name, r.u.b ++ b, IntKind.u32.wrap (r.u.page + 1)⟩, r.k, v', r.born⟩) ⟨hbx4, ho4⟩ rfl rfl rfl (by
          rcases hw2 with e | e
          · exact .inl e
          · exact .inr ⟨_, e, Nat.le_refl _⟩)
        refine ⟨trivial, _, ⟨m, clock, _, hR', by rw [List.map_set, hT], rfl⟩, f24.weaken ?_, hft⟩
        rintro k _ (rfl | e)
        · exact .inr (.inr ⟨r, hr, .inl rfl⟩)
        · exact .inr (.inr ⟨r, hr, .inr e⟩)
  · rw [hT] at hfu
    have q : ((none : Option Addr) == none) = true := rfl
    unfold tChunk
    rw [hfu]
    simp only
    simp -implicitDefEqProofs only [go_sem, ↓reduceIte, Nat.reduceEqDiff, Int.reduceLT, not_false_eq_true, List.map_toArray, List.map_cons, List.map_nil, Option.isSome_some, Nat.reduceLT, Int.reduceToNat, Int.reducePow, Nat.reduceAdd, Int.toNat_natCast, Bool.not_true, Bool.not_false, Nat.mul_one, decide_true, decide_false, Bool.false_eq_true, List.getElem?_cons_zero, List.getElem?_cons_succ, Int.reduceEq, Option.map_some, Option.map_none, at_add, add_zero', Nat.zero_add, Nat.add_zero, Nat.zero_mul, List.getElem?_toArray, List.length_cons, List.length_nil, allOne_nil, allOne_cons, Bool.and_true, Bool.true_and, Nat.reduceLT, Nat.reduceLeDiff, Int.reduceLE, List.append_toArray, List.cons_append, List.nil_append, List.append_nil]
    refine peqK_of Try.underlying65 ?_
    simp -implicitDefEqProofs only [go_sem, ↓reduceIte, Nat.reduceEqDiff, Int.reduceLT, not_false_eq_true, List.map_toArray, List.map_cons, List.map_nil, Option.isSome_some, Nat.reduceLT, Int.reduceToNat, Int.reducePow, Nat.reduceAdd, Int.toNat_natCast, Bool.not_true, Bool.not_false, Nat.mul_one, decide_true, decide_false, Bool.false_eq_true, List.getElem?_cons_zero, List.getElem?_cons_succ, Int.reduceEq, Option.map_some, Option.map_none, at_add, add_zero', Nat.zero_add, Nat.add_zero, Nat.zero_mul, List.getElem?_toArray, List.length_cons, List.length_nil, allOne_nil, allOne_cons, Bool.and_true, Bool.true_and, Nat.reduceLT, Nat.reduceLeDiff, Int.reduceLE, List.append_toArray, List.cons_append, List.nil_append, List.append_nil, q]
    exact ⟨trivial, hstay⟩

theorem erase_ents {R : List Row} {n : Int} {i : Nat} {v : Value} (h : fnd n (R.map Row.ent) 0 = some (i, v)) : del n (R.map Row.ent) = (R.eraseIdx i).map Row.ent := by
  unfold del
  rw [h]
  simp only
  rw [erase_map]
/-- An upload is taken out. -/
theorem TabR.erase {w : World} {g m clock : Nat} {last : Int} {R : List Row} (h : TabR w g m clock last R) {n : Int} {i : Nat} {v : Value} (hf : fnd n (R.map Row.ent) 0 = some (i, v)) :
    TabR (setMap w m .u32 (del n (R.map Row.ent)) clock) g m clock last (R.eraseIdx i) ∧ (∀ k, foot g m (R.eraseIdx i) k → foot g m R k) ∧ Fx (fun k => k = m) w (setMap w m .u32 (del n (R.map Row.ent)) clock) := by
  have hm := h.map.set (del n (R.map Row.ent)) clock
  have f : Fx (fun k => k = m) w (setMap w m .u32 (del n (R.map Row.ent)) clock) := Fx.setMap _ _
  rw [erase_ents hf] at hm f ⊢
  obtain ⟨a, b⟩ := h.sub (List.eraseIdx_sublist R i) f hm
  exact ⟨a, b, f⟩
theorem abort_calls (h : Tab w g T Ft) (owner n : Int) :
    callK Try.prog 14 #[.pointer (some (At g 0)), .int .u64 owner, .int .u32 n] w fun v w' => v = .int .i64 (tAbort T owner n).1 ∧ TabStep w w' g (tAbort T owner n).2 Ft := by
  obtain ⟨m, clock, R, hR, hT, rfl⟩ := id h
  refine callK_of Try.func14 c14 r14 (by exact Nat.le_of_ble_eq_true rfl) ?_
  rw [m14]
  simp -implicitDefEqProofs only [go_sem, ↓reduceIte, Nat.reduceEqDiff, Int.reduceLT, not_false_eq_true, List.map_toArray, List.map_cons, List.map_nil, Option.isSome_some, Nat.reduceLT, Int.reduceToNat, Int.reducePow, Nat.reduceAdd, Int.toNat_natCast, Bool.not_true, Bool.not_false, Nat.mul_one, decide_true, decide_false, Bool.false_eq_true, List.getElem?_cons_zero, List.getElem?_cons_succ, Int.reduceEq, Option.map_some, Option.map_none, at_add, add_zero', Nat.zero_add, Nat.add_zero, Nat.zero_mul, List.getElem?_toArray, List.length_cons, List.length_nil, allOne_nil, allOne_cons, Bool.and_true, Bool.true_and, Nat.reduceLT, Nat.reduceLeDiff, Int.reduceLE, List.append_toArray, List.cons_append, List.nil_append, List.append_nil]
  refine (own_calls hR owner n).mono ?_
  rintro v w1 ⟨rfl, ⟨i, r, hi, hrn, hro, hfu, hfn, rfl⟩ | ⟨hfu, rfl⟩⟩
  · rw [hT] at hfu
    have q : (some (At r.k 0) == none) = false := rfl
    unfold tAbort
    rw [hfu]
    simp only
    simp -implicitDefEqProofs only [go_sem, ↓reduceIte, Nat.reduceEqDiff, Int.reduceLT, not_false_eq_true, List.map_toArray, List.map_cons, List.map_nil, Option.isSome_some, Nat.reduceLT, Int.reduceToNat, Int.reducePow, Nat.reduceAdd, Int.toNat_natCast, Bool.not_true, Bool.not_false, Nat.mul_one, decide_true, decide_false, Bool.false_eq_true, List.getElem?_cons_zero, List.getElem?_cons_succ, Int.reduceEq, Option.map_some, Option.map_none, at_add, add_zero', Nat.zero_add, Nat.add_zero, Nat.zero_mul, List.getElem?_toArray, List.length_cons, List.length_nil, allOne_nil, allOne_cons, Bool.and_true, Bool.true_and, Nat.reduceLT, Nat.reduceLeDiff, Int.reduceLE, List.append_toArray, List.cons_append, List.nil_append, List.append_nil]
    refine peqK_of Try.underlying65 ?_
    simp -implicitDefEqProofs only [go_sem, ↓reduceIte, Nat.reduceEqDiff, Int.reduceLT, not_false_eq_true, List.map_toArray, List.map_cons, List.map_nil, Option.isSome_some, Nat.reduceLT, Int.reduceToNat, Int.reducePow, Nat.reduceAdd, Int.toNat_natCast, Bool.not_true, Bool.not_false, Nat.mul_one, decide_true, decide_false, Bool.false_eq_true, List.getElem?_cons_zero, List.getElem?_cons_succ, Int.reduceEq, Option.map_some, Option.map_none, at_add, add_zero', Nat.zero_add, Nat.add_zero, Nat.zero_mul, List.getElem?_toArray, List.length_cons, List.length_nil, allOne_nil, allOne_cons, Bool.and_true, Bool.true_and, Nat.reduceLT, Nat.reduceLeDiff, Int.reduceLE, List.append_toArray, List.cons_append, List.nil_append, List.append_nil, q, hR.box.cell]
    refine delK_of Try.underlying62 Try.underlying26 hR.map n ?_
    obtain ⟨hR', hft, f⟩ := hR.erase hfn
    generalize setMap w1 m .u32 (del n (R.map Row.ent)) clock = w2 at *
    simp -implicitDefEqProofs only [go_sem, ↓reduceIte, Nat.reduceEqDiff, Int.reduceLT, not_false_eq_true, List.map_toArray, List.map_cons, List.map_nil, Option.isSome_some, Nat.reduceLT, Int.reduceToNat, Int.reducePow, Nat.reduceAdd, Int.toNat_natCast, Bool.not_true, Bool.not_false, Nat.mul_one, decide_true, decide_false, Bool.false_eq_true, List.getElem?_cons_zero, List.getElem?_cons_succ, Int.reduceEq, Option.map_some, Option.map_none, at_add, add_zero', Nat.zero_add, Nat.add_zero, Nat.zero_mul, List.getElem?_toArray, List.length_cons, List.length_nil, allOne_nil, allOne_cons, Bool.and_true, Bool.true_and, Nat.reduceLT, Nat.reduceLeDiff, Int.reduceLE, List.append_toArray, List.cons_append, List.nil_append, List.append_nil]
    refine ⟨trivial, _, ⟨m, clock, _, hR', by rw [← hT]; exact (erase_map _ _ _).symm, rfl⟩, f.weaken (fun k _ e => .inr (.inl e)), fun k hk => .inl (hft k hk)⟩
  · rw [hT] at hfu
    have q : ((none : Option Addr) == none) = true := rfl
    unfold tAbort
    rw [hfu]
    simp only
    simp -implicitDefEqProofs only [go_sem, ↓reduceIte, Nat.reduceEqDiff, Int.reduceLT, not_false_eq_true, List.map_toArray, List.map_cons, List.map_nil, Option.isSome_some, Nat.reduceLT, Int.reduceToNat, Int.reducePow, Nat.reduceAdd, Int.toNat_natCast, Bool.not_true, Bool.not_false, Nat.mul_one, decide_true, decide_false, Bool.false_eq_true, List.getElem?_cons_zero, List.getElem?_cons_succ, Int.reduceEq, Option.map_some, Option.map_none, at_add, add_zero', Nat.zero_add, Nat.add_zero, Nat.zero_mul, List.getElem?_toArray, List.length_cons, List.length_nil, allOne_nil, allOne_cons, Bool.and_true, Bool.true_and, Nat.reduceLT, Nat.reduceLeDiff, Int.reduceLE, List.append_toArray, List.cons_append, List.nil_append, List.append_nil]
    refine peqK_of Try.underlying65 ?_
    simp -implicitDefEqProofs only [go_sem, ↓reduceIte, Nat.reduceEqDiff, Int.reduceLT, not_false_eq_true, List.map_toArray, List.map_cons, List.map_nil, Option.isSome_some, Nat.reduceLT, Int.reduceToNat, Int.reducePow, Nat.reduceAdd, Int.toNat_natCast, Bool.not_true, Bool.not_false, Nat.mul_one, decide_true, decide_false, Bool.false_eq_true, List.getElem?_cons_zero, List.getElem?_cons_succ, Int.reduceEq, Option.map_some, Option.map_none, at_add, add_zero', Nat.zero_add, Nat.add_zero, Nat.zero_mul, List.getElem?_toArray, List.length_cons, List.length_nil, allOne_nil, allOne_cons, Bool.and_true, Bool.true_and, Nat.reduceLT, Nat.reduceLeDiff, Int.reduceLE, List.append_toArray, List.cons_append, List.nil_append, List.append_nil, q]
    exact ⟨trivial, _, h, Fx.refl _ _, fun k hk => .inl hk⟩
theorem commit_calls (h : Tab w g T Ft) (hok : TbOk T) (owner n : Int) :
    callK Try.prog 19 #[.pointer (some (At g 0)), .int .u64 owner, .int .u32 n] w fun v w' => ∃ v1, v = .tuple #[.string (tCommit T owner n).1, v1, .int .i64 (tCommit T owner n).2.2.1] ∧ kChanges.rep (fun k => w.heap.size ≤ k) w' (tCommit T owner n).2.1 [v1] ∧ TabStep w w' g (tCommit T owner n).2.2.2 Ft := by
  obtain ⟨m, clock, R, hR, hT, rfl⟩ := id h
  refine callK_of Try.func19 c19 r19 (by exact Nat.le_of_ble_eq_true rfl) ?_
  rw [m19]
  simp -implicitDefEqProofs only [go_sem, ↓reduceIte, Nat.reduceEqDiff, Int.reduceLT, not_false_eq_true, List.map_toArray, List.map_cons, List.map_nil, Option.isSome_some, Nat.reduceLT, Int.reduceToNat, Int.reducePow, Nat.reduceAdd, Int.toNat_natCast, Bool.not_true, Bool.not_false, Nat.mul_one, decide_true, decide_false, Bool.false_eq_true, List.getElem?_cons_zero, List.getElem?_cons_succ, Int.reduceEq, Option.map_some, Option.map_none, at_add, add_zero', Nat.zero_add, Nat.add_zero, Nat.zero_mul, List.getElem?_toArray, List.length_cons, List.length_nil, allOne_nil, allOne_cons, Bool.and_true, Bool.true_and, Nat.reduceLT, Nat.reduceLeDiff, Int.reduceLE, List.append_toArray, List.cons_append, List.nil_append, List.append_nil]
  refine (own_calls hR owner n).mono ?_
  rintro v w1 ⟨rfl, ⟨i, r, hi, hrn, hro, hfu, hfn, rfl⟩ | ⟨hfu, rfl⟩⟩
  · rw [hT] at hfu
    have q : (some (At r.k 0) == none) = false := rfl
    unfold tCommit
    rw [hfu]
    simp only
    simp -implicitDefEqProofs only [go_sem, ↓reduceIte, Nat.reduceEqDiff, Int.reduceLT, not_false_eq_true, List.map_toArray, List.map_cons, List.map_nil, Option.isSome_some, Nat.reduceLT, Int.reduceToNat, Int.reducePow, Nat.reduceAdd, Int.toNat_natCast, Bool.not_true, Bool.not_false, Nat.mul_one, decide_true, decide_false, Bool.false_eq_true, List.getElem?_cons_zero, List.getElem?_cons_succ, Int.reduceEq, Option.map_some, Option.map_none, at_add, add_zero', Nat.zero_add, Nat.add_zero, Nat.zero_mul, List.getElem?_toArray, List.length_cons, List.length_nil, allOne_nil, allOne_cons, Bool.and_true, Bool.true_and, Nat.reduceLT, Nat.reduceLeDiff, Int.reduceLE, List.append_toArray, List.cons_append, List.nil_append, List.append_nil]
    refine peqK_of Try.underlying65 ?_
    simp -implicitDefEqProofs only [go_sem, ↓reduceIte, Nat.reduceEqDiff, Int.reduceLT, not_false_eq_true, List.map_toArray, List.map_cons, List.map_nil, Option.isSome_some, Nat.reduceLT, Int.reduceToNat, Int.reducePow, Nat.reduceAdd, Int.toNat_natCast, Bool.not_true, Bool.not_false, Nat.mul_one, decide_true, decide_false, Bool.false_eq_true, List.getElem?_cons_zero, List.getElem?_cons_succ, Int.reduceEq, Option.map_some, Option.map_none, at_add, add_zero', Nat.zero_add, Nat.add_zero, Nat.zero_mul, List.getElem?_toArray, List.length_cons, List.length_nil, allOne_nil, allOne_cons, Bool.and_true, Bool.true_and, Nat.reduceLT, Nat.reduceLeDiff, Int.reduceLE, List.append_toArray, List.cons_append, List.nil_append, List.append_nil, q, hR.box.cell]
    refine delK_of Try.underlying62 Try.underlying26 hR.map n ?_
    obtain ⟨hR', hft, f⟩ := hR.erase hfn
    have hUr := (hR.ups r (List.mem_of_getElem? hi)).fx f (fun e => hR.map.ne (hR.ups r (List.mem_of_getElem? hi)).1 e.symm) (fun k hk e => by
      have e : k = m := e
      exact (hR.ups r (List.mem_of_getElem? hi)).2.ne_map hR.map (e ▸ hk))
    have s2 := f.size
    generalize setMap w1 m .u32 (del n (R.map Row.ent)) clock = w2 at *
    obtain ⟨Au, cu, hv, hlu, hmu, hru⟩ := hUr.2.slice'
    have hcell := hUr.1.cell
    have hcell2 := hcell 2
    rw [hv] at hcell2
    simp -implicitDefEqProofs only [go_sem, ↓reduceIte, Nat.reduceEqDiff, Int.reduceLT, not_false_eq_true, List.map_toArray, List.map_cons, List.map_nil, Option.isSome_some, Nat.reduceLT, Int.reduceToNat, Int.reducePow, Nat.reduceAdd, Int.toNat_natCast, Bool.not_true, Bool.not_false, Nat.mul_one, decide_true, decide_false, Bool.false_eq_true, List.getElem?_cons_zero, List.getElem?_cons_succ, Int.reduceEq, Option.map_some, Option.map_none, at_add, add_zero', Nat.zero_add, Nat.add_zero, Nat.zero_mul, List.getElem?_toArray, List.length_cons, List.length_nil, allOne_nil, allOne_cons, Bool.and_true, Bool.true_and, Nat.reduceLT, Nat.reduceLeDiff, Int.reduceLE, List.append_toArray, List.cons_append, List.nil_append, List.append_nil, hcell2]
    have hbs := (hok.bs r.u (by rw [← hT]; exact List.mem_map_of_mem (List.mem_of_getElem? hi))).1
    refine (getChanges_calls (A := Au) (c := cu) hlu hmu (elems_of hru (fun ad hA hne => ?_) (fun x hx => u8_wf (hbs x hx).1 (hbs x hx).2))).mono ?_
    · obtain ⟨x, hx⟩ := List.exists_mem_of_ne_nil _ hne
      obtain ⟨j, hj⟩ := List.mem_iff_getElem?.1 hx
      obtain ⟨ad', e, hc⟩ := hru j x hj
      rw [hA] at e
      cases e
      have := cell_lt hc
      rwa [add_block] at this
    rintro v w3 ⟨v1, rfl, hrep, k3⟩
    have hR3 := hR'.fx k3 (fun _ _ x => x)
    have hcell3 := (k3.blk hUr.1 (fun x => x)).cell
    have hstep : TabStep w1 w3 g ⟨T.l.eraseIdx i, T.last⟩ (foot g m R) := ⟨_, ⟨m, clock, _, hR3, by rw [← hT]; exact (erase_map _ _ _).symm, rfl⟩, (f.weaken (fun k _ e => .inr (.inl e))).keep k3, fun k hk => .inl (hft k hk)⟩
    have hrep' := kChanges.mono hrep (U' := fun k => w1.heap.size ≤ k) (fun k _ hk => by omega)
    by_cases hz : (getChanges r.u.b).2 = 0
    · have z : ((getChanges r.u.b).2 != 0) = false := by rw [hz]; rfl
      rw [if_pos hz]
      simp -implicitDefEqProofs only [go_sem, ↓reduceIte, Nat.reduceEqDiff, Int.reduceLT, not_false_eq_true, List.map_toArray, List.map_cons, List.map_nil, Option.isSome_some, Nat.reduceLT, Int.reduceToNat, Int.reducePow, Nat.reduceAdd, Int.toNat_natCast, Bool.not_true, Bool.not_false, Nat.mul_one, decide_true, decide_false, Bool.false_eq_true, List.getElem?_cons_zero, List.getElem?_cons_succ, Int.reduceEq, Option.map_some, Option.map_none, at_add, add_zero', Nat.zero_add, Nat.add_zero, Nat.zero_mul, List.getElem?_toArray, List.length_cons, List.length_nil, allOne_nil, allOne_cons, Bool.and_true, Bool.true_and, Nat.reduceLT, Nat.reduceLeDiff, Int.reduceLE, List.append_toArray, List.cons_append, List.nil_append, List.append_nil, z, hcell3]
      exact ⟨_, rfl, hrep', hstep⟩
    · have z : ((getChanges r.u.b).2 != 0) = true := by rw [bne_iff_ne]; exact hz
      rw [if_neg hz]
      simp -implicitDefEqProofs only [go_sem, ↓reduceIte, Nat.reduceEqDiff, Int.reduceLT, not_false_eq_true, List.map_toArray, List.map_cons, List.map_nil, Option.isSome_some, Nat.reduceLT, Int.reduceToNat, Int.reducePow, Nat.reduceAdd, Int.toNat_natCast, Bool.not_true, Bool.not_false, Nat.mul_one, decide_true, decide_false, Bool.false_eq_true, List.getElem?_cons_zero, List.getElem?_cons_succ, Int.reduceEq, Option.map_some, Option.map_none, at_add, add_zero', Nat.zero_add, Nat.add_zero, Nat.zero_mul, List.getElem?_toArray, List.length_cons, List.length_nil, allOne_nil, allOne_cons, Bool.and_true, Bool.true_and, Nat.reduceLT, Nat.reduceLeDiff, Int.reduceLE, List.append_toArray, List.cons_append, List.nil_append, List.append_nil, z]
      exact ⟨_, rfl, nil_rep _ _, hstep⟩
  · rw [hT] at hfu
    have q : ((none : Option Addr) == none) = true := rfl
    unfold tCommit
    rw [hfu]
    simp only
    simp -implicitDefEqProofs only [go_sem, ↓reduceIte, Nat.reduceEqDiff, Int.reduceLT, not_false_eq_true, List.map_toArray, List.map_cons, List.map_nil, Option.isSome_some, Nat.reduceLT, Int.reduceToNat, Int.reducePow, Nat.reduceAdd, Int.toNat_natCast, Bool.not_true, Bool.not_false, Nat.mul_one, decide_true, decide_false, Bool.false_eq_true, List.getElem?_cons_zero, List.getElem?_cons_succ, Int.reduceEq, Option.map_some, Option.map_none, at_add, add_zero', Nat.zero_add, Nat.add_zero, Nat.zero_mul, List.getElem?_toArray, List.length_cons, List.length_nil, allOne_nil, allOne_cons, Bool.and_true, Bool.true_and, Nat.reduceLT, Nat.reduceLeDiff, Int.reduceLE, List.append_toArray, List.cons_append, List.nil_append, List.append_nil]
    refine peqK_of Try.underlying65 ?_
    simp -implicitDefEqProofs only [go_sem, ↓reduceIte, Nat.reduceEqDiff, Int.reduceLT, not_false_eq_true, List.map_toArray, List.map_cons, List.map_nil, Option.isSome_some, Nat.reduceLT, Int.reduceToNat, Int.reducePow, Nat.reduceAdd, Int.toNat_natCast, Bool.not_true, Bool.not_false, Nat.mul_one, decide_true, decide_false, Bool.false_eq_true, List.getElem?_cons_zero, List.getElem?_cons_succ, Int.reduceEq, Option.map_some, Option.map_none, at_add, add_zero', Nat.zero_add, Nat.add_zero, Nat.zero_mul, List.getElem?_toArray, List.length_cons, List.length_nil, allOne_nil, allOne_cons, Bool.and_true, Bool.true_and, Nat.reduceLT, Nat.reduceLeDiff, Int.reduceLE, List.append_toArray, List.cons_append, List.nil_append, List.append_nil, q]
    exact ⟨_, rfl, nil_rep _ _, _, h, Fx.refl _ _, fun k hk => .inl hk⟩
end
end Go.Proofs.Ytdnlnaeonhbfiaa.F
