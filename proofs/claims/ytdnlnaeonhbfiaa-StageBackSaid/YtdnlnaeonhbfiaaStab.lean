/- A table of uploads in memory, and the simple calls on it. Conditions: those of the table. -/
import Derived.Test.YtdnlnaeonhbfiaaMmapk
import Derived.Test.YtdnlnaeonhbfiaaMput
import Derived.Test.YtdnlnaeonhbfiaaMrefv
import Derived.Test.YtdnlnaeonhbfiaaGthings
import Derived.Test.YtdnlnaeonhbfiaaSpure
namespace Go.Proofs.Ytdnlnaeonhbfiaa.F
open Go.RowKit Go.Proofs.Ytdnlnaeonhbfiaa.M Go.Proofs.Ytdnlnaeonhbfiaa.V
set_option linter.unusedSimpArgs false
set_option linter.unusedVariables false
set_option maxRecDepth 20000

/-- An upload, its block, its bytes' row, when it was laid into the map. -/
structure Row where
  u : Up
  k : Nat
  v : Value
  born : Nat
def Row.ent (r : Row) : Ent := ⟨r.u.n, .pointer (some (At r.k 0)), r.born⟩
def UpB (w : World) (r : Row) : Prop := Blk w r.k 67 #[.int .u64 r.u.owner, .string r.u.name, r.v, .int .u32 r.u.page] ∧ OwnI 5 .u8 0 w r.v r.u.b
def RowNe (r s : Row) : Prop := r.u.n ≠ s.u.n ∧ r.k ≠ s.k ∧ r.born ≠ s.born ∧ ∀ b, r.v.ownBlock = some b → s.v.ownBlock ≠ some b
theorem RowNe.symm {r s : Row} (h : RowNe r s) : RowNe s r := ⟨h.1.symm, h.2.1.symm, h.2.2.1.symm, fun b hs hr => h.2.2.2 b hr hs⟩
structure TabR (w : World) (g m clock : Nat) (last : Int) (R : List Row) : Prop where
  box : Blk w g 64 #[.map (some m), .int .u32 last]
  map : MapB w m .u32 (R.map Row.ent) clock
  ups : ∀ r ∈ R, UpB w r
  born : ∀ r ∈ R, r.born < clock
  nums : ∀ r ∈ R, 1 ≤ r.u.n ∧ r.u.n ≤ last
  ne : R.Pairwise RowNe
  last0 : 0 ≤ last
def foot (g m : Nat) (R : List Row) (k : Nat) : Prop := k = g ∨ k = m ∨ ∃ r ∈ R, k = r.k ∨ r.v.ownBlock = some k
theorem UpB.fx {w w' : World} {r : Row} {b : Nat → Prop} (h : UpB w r) (hf : Fx b w w') (h1 : ¬ b r.k) (h2 : ∀ k, r.v.ownBlock = some k → ¬ b k) : UpB w' r := ⟨hf.blk h.1 h1, h.2.fx hf (fun k hk => h2 k hk.symm)⟩
theorem TabR.fx {w w' : World} {g m clock : Nat} {last : Int} {R : List Row} {b : Nat → Prop} (h : TabR w g m clock last R) (hf : Fx b w w') (hn : ∀ k, foot g m R k → ¬ b k) : TabR w' g m clock last R :=
  ⟨hf.blk h.box (hn g (.inl rfl)), h.map.fx hf (hn m (.inr (.inl rfl))), fun r hr => (h.ups r hr).fx hf (hn r.k (.inr (.inr ⟨r, hr, .inl rfl⟩))) (fun k hk => hn k (.inr (.inr ⟨r, hr, .inr hk⟩))), h.born, h.nums, h.ne, h.last0⟩
theorem TabR.lt {w : World} {g m clock : Nat} {last : Int} {R : List Row} (h : TabR w g m clock last R) {k : Nat} (hk : foot g m R k) : k < w.heap.size := by
  rcases hk with rfl | rfl | ⟨r, hr, rfl | hk⟩
  · exact h.box.lt
  · exact h.map.lt
  · exact (h.ups r hr).1.lt
  · exact ((h.ups r hr).2.lt hk.symm).2
/-- A table, and the blocks that are its own. -/
def Tab (w : World) (g : Nat) (T : Tb) (Ft : Nat → Prop) : Prop := ∃ m clock R, TabR w g m clock T.last R ∧ R.map (·.u) = T.l ∧ Ft = foot g m R
theorem Tab.fx {w w' : World} {g : Nat} {T : Tb} {Ft b : Nat → Prop} (h : Tab w g T Ft) (hf : Fx b w w') (hn : ∀ k, Ft k → ¬ b k) : Tab w' g T Ft := by
  obtain ⟨m, clock, R, h1, h2, rfl⟩ := h
  exact ⟨m, clock, R, h1.fx hf hn, h2, rfl⟩
theorem Tab.lt {w : World} {g : Nat} {T : Tb} {Ft : Nat → Prop} (h : Tab w g T Ft) : ∀ k, Ft k → k < w.heap.size := by
  obtain ⟨m, clock, R, h1, h2, rfl⟩ := h
  exact fun k hk => h1.lt hk
/-- What a call on a table may do. -/
def TabStep (w w' : World) (g : Nat) (T' : Tb) (Ft : Nat → Prop) : Prop := ∃ Ft', Tab w' g T' Ft' ∧ Fx Ft w w' ∧ ∀ k, Ft' k → Ft k ∨ w.heap.size ≤ k

theorem fnd_rows {owner n : Int} : ∀ {R : List Row} {i0 : Nat}, R.Pairwise RowNe →
    (fnd n (R.map Row.ent) i0 = none ∧ fUp owner n (R.map (·.u)) i0 = none ∧ ∀ r ∈ R, r.u.n ≠ n) ∨
    ∃ i r, R[i]? = some r ∧ r.u.n = n ∧ fnd n (R.map Row.ent) i0 = some (i0 + i, .pointer (some (At r.k 0))) ∧ (r.u.owner = owner → fUp owner n (R.map (·.u)) i0 = some (i0 + i, r.u)) ∧ (r.u.owner ≠ owner → fUp owner n (R.map (·.u)) i0 = none)
  | [], _, _ => .inl ⟨rfl, rfl, fun r hr => by simp at hr⟩
  | r :: R, i0, h => by
    obtain ⟨h1, h2⟩ := List.pairwise_cons.1 h
    by_cases hn : r.u.n = n
    · refine .inr ⟨0, r, rfl, hn, by simp [fnd, Row.ent, hn], fun ho => by simp [fUp, hn, ho], fun ho => ?_⟩
      have : ∀ (S : List Row) (k : Nat), (∀ s ∈ S, s.u.n ≠ n) → fUp owner n (S.map (·.u)) k = none := by
        intro S
        induction S with
        | nil => intro k _; rfl
        | cons s S ih =>
          intro k hs
          have := hs s (by simp)
          simp only [List.map_cons, fUp]
          rw [if_neg (fun q => this q.1)]
          exact ih _ (fun x hx => hs x (by simp [hx]))
      simp only [List.map_cons, fUp]
      rw [if_neg (fun q => ho q.2)]
      exact this R _ (fun s hs e => (h1 s hs).1 (hn.trans e.symm))
    · have e1 : fnd n ((r :: R).map Row.ent) i0 = fnd n (R.map Row.ent) (i0 + 1) := by
        simp only [List.map_cons, fnd]
        rw [if_neg (fun e => hn e.symm)]
      have e2 : fUp owner n ((r :: R).map (·.u)) i0 = fUp owner n (R.map (·.u)) (i0 + 1) := by
        simp only [List.map_cons, fUp]
        rw [if_neg (fun q => hn q.1)]
      rw [e1, e2]
      rcases fnd_rows (i0 := i0 + 1) h2 with ⟨a, b, c⟩ | ⟨i, s, a, b, c, d, e⟩
      · refine .inl ⟨a, b, fun x hx => ?_⟩
        rcases List.mem_cons.1 hx with rfl | hx
        · exact hn
        · exact c x hx
      · exact .inr ⟨i + 1, s, by simpa using a, b, by rw [c, show i0 + 1 + i = i0 + (i + 1) by omega], by rw [show i0 + (i + 1) = i0 + 1 + i by omega]; exact d, e⟩

theorem new_calls (w : World) : callK Try.prog 9 #[] w fun v w' => ∃ g Ft, v = .pointer (some (At g 0)) ∧ Tab w' g ⟨[], 0⟩ Ft ∧ (∀ k, Ft k → w.heap.size ≤ k) ∧ Keep w w' := by
  refine callK_of Try.func9 c9 r9 (by exact Nat.le_of_ble_eq_true rfl) ?_
  rw [m9]
  simp -implicitDefEqProofs only [go_sem, ↓reduceIte, Nat.reduceEqDiff, Int.reduceLT, not_false_eq_true, List.map_toArray, List.map_cons, List.map_nil, Option.isSome_some, Nat.reduceLT, Int.reduceToNat, Int.reducePow, Nat.reduceAdd, Int.toNat_natCast, Bool.not_true, Bool.not_false, Nat.mul_one, decide_true, decide_false, Bool.false_eq_true, List.getElem?_cons_zero, List.getElem?_cons_succ, Int.reduceEq, Option.map_some, Option.map_none, at_add, add_zero', Nat.zero_add, Nat.add_zero, Nat.zero_mul, List.getElem?_toArray, List.length_cons, List.length_nil, allOne_nil, allOne_cons, Bool.and_true, Bool.true_and, Nat.reduceLT, Nat.reduceLeDiff, Int.reduceLE, List.append_toArray, List.cons_append, List.nil_append, List.append_nil]
  have hm := MapB.new w .u32
  have k1 : Keep w (w.alloc (.map #[] 0)) := Fx.alloc _ _ _
  have s1 := size_alloc w (.map #[] 0)
  generalize w.alloc (.map #[] 0) = w1 at *
  have hb : Blk _ _ _ _ := Blk.new w1 64 #[.map (some w.heap.size), .int .u32 0]
  have k2 : Keep w1 (w1.alloc (.cells #[.map (some w.heap.size), .int .u32 0] 64)) := Fx.alloc _ _ _
  have hm2 := hm.fx k2 (fun x => x)
  generalize w1.alloc (.cells #[.map (some w.heap.size), .int .u32 0] 64) = w2 at *
  refine ⟨w1.heap.size, foot w1.heap.size w.heap.size [], rfl, ⟨w.heap.size, 0, [], ⟨hb, hm2, fun r hr => by simp at hr, fun r hr => by simp at hr, fun r hr => by simp at hr, List.Pairwise.nil, by decide⟩, rfl, rfl⟩, ?_, k1.tr k2⟩
  rintro k (rfl | rfl | ⟨r, hr, _⟩)
  · omega
  · exact Nat.le_refl _
  · simp at hr

section
variable {w : World} {g m clock : Nat} {last : Int} {R : List Row}
theorem zero_ptr (w : World) : (zeroValue 65).run Try.prog w = .ok (.pointer none) w := by
  have hz : (Try.prog.info? 65).bind (·.zero) = some (.pointer none) := by kernel_rfl
  cases hi : Try.prog.info? 65 with
  | none => rw [hi] at hz; cases hz
  | some i =>
    rw [hi] at hz
    replace hz : i.zero = some (.pointer none) := hz
    simp [zeroValue, typeInfo, hi, hz]
theorem own_calls (h : TabR w g m clock last R) (owner n : Int) : callK Try.prog 27 #[.pointer (some (At g 0)), .int .u64 owner, .int .u32 n] w fun v w' => w' = w ∧
    ((∃ i r, R[i]? = some r ∧ r.u.n = n ∧ r.u.owner = owner ∧ fUp owner n (R.map (·.u)) 0 = some (i, r.u) ∧ fnd n (R.map Row.ent) 0 = some (i, .pointer (some (At r.k 0))) ∧ v = .pointer (some (At r.k 0))) ∨ (fUp owner n (R.map (·.u)) 0 = none ∧ v = .pointer none)) := by
  refine callK_of Try.func27 c27 r27 (by exact Nat.le_of_ble_eq_true rfl) ?_
  rw [m27]
  simp -implicitDefEqProofs only [go_sem, ↓reduceIte, Nat.reduceEqDiff, Int.reduceLT, not_false_eq_true, List.map_toArray, List.map_cons, List.map_nil, Option.isSome_some, Nat.reduceLT, Int.reduceToNat, Int.reducePow, Nat.reduceAdd, Int.toNat_natCast, Bool.not_true, Bool.not_false, Nat.mul_one, decide_true, decide_false, Bool.false_eq_true, List.getElem?_cons_zero, List.getElem?_cons_succ, Int.reduceEq, Option.map_some, Option.map_none, at_add, add_zero', Nat.zero_add, Nat.add_zero, Nat.zero_mul, List.getElem?_toArray, List.length_cons, List.length_nil, allOne_nil, allOne_cons, Bool.and_true, Bool.true_and, Nat.reduceLT, Nat.reduceLeDiff, Int.reduceLE, List.append_toArray, List.cons_append, List.nil_append, List.append_nil, h.box.cell]
  refine lookK_of Try.underlying62 Try.underlying26 h.map n (zero_ptr w) ?_
  rcases fnd_rows (owner := owner) (n := n) (i0 := 0) h.ne with ⟨h1, h2, _⟩ | ⟨i, r, hr, hrn, h1, h2, h3⟩
  · rw [h1]
    have q : ((none : Option Addr) == none) = true := rfl
    simp -implicitDefEqProofs only [go_sem, ↓reduceIte, Nat.reduceEqDiff, Int.reduceLT, not_false_eq_true, List.map_toArray, List.map_cons, List.map_nil, Option.isSome_some, Nat.reduceLT, Int.reduceToNat, Int.reducePow, Nat.reduceAdd, Int.toNat_natCast, Bool.not_true, Bool.not_false, Nat.mul_one, decide_true, decide_false, Bool.false_eq_true, List.getElem?_cons_zero, List.getElem?_cons_succ, Int.reduceEq, Option.map_some, Option.map_none, at_add, add_zero', Nat.zero_add, Nat.add_zero, Nat.zero_mul, List.getElem?_toArray, List.length_cons, List.length_nil, allOne_nil, allOne_cons, Bool.and_true, Bool.true_and, Nat.reduceLT, Nat.reduceLeDiff, Int.reduceLE, List.append_toArray, List.cons_append, List.nil_append, List.append_nil, Option.elim_none]
    refine peqK_of Try.underlying65 ?_
    simp -implicitDefEqProofs only [go_sem, ↓reduceIte, Nat.reduceEqDiff, Int.reduceLT, not_false_eq_true, List.map_toArray, List.map_cons, List.map_nil, Option.isSome_some, Nat.reduceLT, Int.reduceToNat, Int.reducePow, Nat.reduceAdd, Int.toNat_natCast, Bool.not_true, Bool.not_false, Nat.mul_one, decide_true, decide_false, Bool.false_eq_true, List.getElem?_cons_zero, List.getElem?_cons_succ, Int.reduceEq, Option.map_some, Option.map_none, at_add, add_zero', Nat.zero_add, Nat.add_zero, Nat.zero_mul, List.getElem?_toArray, List.length_cons, List.length_nil, allOne_nil, allOne_cons, Bool.and_true, Bool.true_and, Nat.reduceLT, Nat.reduceLeDiff, Int.reduceLE, List.append_toArray, List.cons_append, List.nil_append, List.append_nil, q]
    exact ⟨trivial, .inr ⟨h2, trivial⟩⟩
  · rw [h1]
    have hU := h.ups r (List.mem_of_getElem? hr)
    have q : (some (At r.k 0) == none) = false := rfl
    rw [Nat.zero_add] at h1 h2
    by_cases ho : r.u.owner = owner
    · have z : (r.u.owner != owner) = false := by rw [ho]; simp
      simp -implicitDefEqProofs only [go_sem, ↓reduceIte, Nat.reduceEqDiff, Int.reduceLT, not_false_eq_true, List.map_toArray, List.map_cons, List.map_nil, Option.isSome_some, Nat.reduceLT, Int.reduceToNat, Int.reducePow, Nat.reduceAdd, Int.toNat_natCast, Bool.not_true, Bool.not_false, Nat.mul_one, decide_true, decide_false, Bool.false_eq_true, List.getElem?_cons_zero, List.getElem?_cons_succ, Int.reduceEq, Option.map_some, Option.map_none, at_add, add_zero', Nat.zero_add, Nat.add_zero, Nat.zero_mul, List.getElem?_toArray, List.length_cons, List.length_nil, allOne_nil, allOne_cons, Bool.and_true, Bool.true_and, Nat.reduceLT, Nat.reduceLeDiff, Int.reduceLE, List.append_toArray, List.cons_append, List.nil_append, List.append_nil, Option.elim_some]
      refine peqK_of Try.underlying65 ?_
      simp -implicitDefEqProofs only [go_sem, ↓reduceIte, Nat.reduceEqDiff, Int.reduceLT, not_false_eq_true, List.map_toArray, List.map_cons, List.map_nil, Option.isSome_some, Nat.reduceLT, Int.reduceToNat, Int.reducePow, Nat.reduceAdd, Int.toNat_natCast, Bool.not_true, Bool.not_false, Nat.mul_one, decide_true, decide_false, Bool.false_eq_true, List.getElem?_cons_zero, List.getElem?_cons_succ, Int.reduceEq, Option.map_some, Option.map_none, at_add, add_zero', Nat.zero_add, Nat.add_zero, Nat.zero_mul, List.getElem?_toArray, List.length_cons, List.length_nil, allOne_nil, allOne_cons, Bool.and_true, Bool.true_and, Nat.reduceLT, Nat.reduceLeDiff, Int.reduceLE, List.append_toArray, List.cons_append, List.nil_append, List.append_nil, q, hU.1.cell, z]
      exact ⟨trivial, .inl ⟨i, r, hr, hrn, ho, h2 ho, by simp, by simp⟩⟩
    · have z : (r.u.owner != owner) = true := by rw [bne_iff_ne]; exact ho
      simp -implicitDefEqProofs only [go_sem, ↓reduceIte, Nat.reduceEqDiff, Int.reduceLT, not_false_eq_true, List.map_toArray, List.map_cons, List.map_nil, Option.isSome_some, Nat.reduceLT, Int.reduceToNat, Int.reducePow, Nat.reduceAdd, Int.toNat_natCast, Bool.not_true, Bool.not_false, Nat.mul_one, decide_true, decide_false, Bool.false_eq_true, List.getElem?_cons_zero, List.getElem?_cons_succ, Int.reduceEq, Option.map_some, Option.map_none, at_add, add_zero', Nat.zero_add, Nat.add_zero, Nat.zero_mul, List.getElem?_toArray, List.length_cons, List.length_nil, allOne_nil, allOne_cons, Bool.and_true, Bool.true_and, Nat.reduceLT, Nat.reduceLeDiff, Int.reduceLE, List.append_toArray, List.cons_append, List.nil_append, List.append_nil, Option.elim_some]
      refine peqK_of Try.underlying65 ?_
      simp -implicitDefEqProofs only [go_sem, ↓reduceIte, Nat.reduceEqDiff, Int.reduceLT, not_false_eq_true, List.map_toArray, List.map_cons, List.map_nil, Option.isSome_some, Nat.reduceLT, Int.reduceToNat, Int.reducePow, Nat.reduceAdd, Int.toNat_natCast, Bool.not_true, Bool.not_false, Nat.mul_one, decide_true, decide_false, Bool.false_eq_true, List.getElem?_cons_zero, List.getElem?_cons_succ, Int.reduceEq, Option.map_some, Option.map_none, at_add, add_zero', Nat.zero_add, Nat.add_zero, Nat.zero_mul, List.getElem?_toArray, List.length_cons, List.length_nil, allOne_nil, allOne_cons, Bool.and_true, Bool.true_and, Nat.reduceLT, Nat.reduceLeDiff, Int.reduceLE, List.append_toArray, List.cons_append, List.nil_append, List.append_nil, q, hU.1.cell, z]
      exact ⟨trivial, .inr ⟨h3 ho, trivial⟩⟩
theorem len_calls {T : Tb} {Ft : Nat → Prop} (h : Tab w g T Ft) : callK Try.prog 12 #[.pointer (some (At g 0))] w fun v w' => v = .int .i64 T.l.length ∧ w' = w := by
  obtain ⟨m, clock, R, hR, hT, rfl⟩ := h
  refine callK_of Try.func12 c12 r12 (by exact Nat.le_of_ble_eq_true rfl) ?_
  rw [m12]
  simp -implicitDefEqProofs only [go_sem, ↓reduceIte, Nat.reduceEqDiff, Int.reduceLT, not_false_eq_true, List.map_toArray, List.map_cons, List.map_nil, Option.isSome_some, Nat.reduceLT, Int.reduceToNat, Int.reducePow, Nat.reduceAdd, Int.toNat_natCast, Bool.not_true, Bool.not_false, Nat.mul_one, decide_true, decide_false, Bool.false_eq_true, List.getElem?_cons_zero, List.getElem?_cons_succ, Int.reduceEq, Option.map_some, Option.map_none, at_add, add_zero', Nat.zero_add, Nat.add_zero, Nat.zero_mul, List.getElem?_toArray, List.length_cons, List.length_nil, allOne_nil, allOne_cons, Bool.and_true, Bool.true_and, Nat.reduceLT, Nat.reduceLeDiff, Int.reduceLE, List.append_toArray, List.cons_append, List.nil_append, List.append_nil, hR.box.cell]
  refine lenMK_of Try.underlying62 hR.map ?_
  simp -implicitDefEqProofs only [go_sem, ↓reduceIte, Nat.reduceEqDiff, Int.reduceLT, not_false_eq_true, List.map_toArray, List.map_cons, List.map_nil, Option.isSome_some, Nat.reduceLT, Int.reduceToNat, Int.reducePow, Nat.reduceAdd, Int.toNat_natCast, Bool.not_true, Bool.not_false, Nat.mul_one, decide_true, decide_false, Bool.false_eq_true, List.getElem?_cons_zero, List.getElem?_cons_succ, Int.reduceEq, Option.map_some, Option.map_none, at_add, add_zero', Nat.zero_add, Nat.add_zero, Nat.zero_mul, List.getElem?_toArray, List.length_cons, List.length_nil, allOne_nil, allOne_cons, Bool.and_true, Bool.true_and, Nat.reduceLT, Nat.reduceLeDiff, Int.reduceLE, List.append_toArray, List.cons_append, List.nil_append, List.append_nil]
  rw [← hT]
  simp
theorem fnd_new {x : Int} : ∀ {R : List Row} {i : Nat}, (∀ r ∈ R, r.u.n ≠ x) → fnd x (R.map Row.ent) i = none
  | [], _, _ => rfl
  | r :: R, i, h => by
    simp only [List.map_cons, fnd]
    rw [if_neg (fun e => h r (by simp) e.symm)]
    exact fnd_new (fun s hs => h s (by simp [hs]))
theorem begin_calls {T : Tb} {Ft : Nat → Prop} (h : Tab w g T Ft) (hl : T.last < 4294967295) (owner : Int) (name : ByteArray) :
    callK Try.prog 10 #[.pointer (some (At g 0)), .int .u64 owner, .string name] w fun v w' => v = .tuple #[.int .u32 (tBegin T owner name).1, .int .i64 (tBegin T owner name).2.1] ∧ TabStep w w' g (tBegin T owner name).2.2 Ft := by
  obtain ⟨m, clock, R, hR, hT, rfl⟩ := id h
  refine callK_of Try.func10 c10 r10 (by exact Nat.le_of_ble_eq_true rfl) ?_
  rw [m10]
  simp -implicitDefEqProofs only [go_sem, ↓reduceIte, Nat.reduceEqDiff, Int.reduceLT, not_false_eq_true, List.map_toArray, List.map_cons, List.map_nil, Option.isSome_some, Nat.reduceLT, Int.reduceToNat, Int.reducePow, Nat.reduceAdd, Int.toNat_natCast, Bool.not_true, Bool.not_false, Nat.mul_one, decide_true, decide_false, Bool.false_eq_true, List.getElem?_cons_zero, List.getElem?_cons_succ, Int.reduceEq, Option.map_some, Option.map_none, at_add, add_zero', Nat.zero_add, Nat.add_zero, Nat.zero_mul, List.getElem?_toArray, List.length_cons, List.length_nil, allOne_nil, allOne_cons, Bool.and_true, Bool.true_and, Nat.reduceLT, Nat.reduceLeDiff, Int.reduceLE, List.append_toArray, List.cons_append, List.nil_append, List.append_nil, hR.box.cell]
  refine lenMK_of Try.underlying62 hR.map ?_
  have hlen : (R.map Row.ent).length = T.l.length := by rw [← hT]; simp
  rw [hlen]
  unfold tBegin
  by_cases h4 : 4 ≤ T.l.length
  · have z : (4 : Int) ≤ (T.l.length : Int) := by omega
    rw [if_pos h4]
    simp -implicitDefEqProofs only [go_sem, ↓reduceIte, Nat.reduceEqDiff, Int.reduceLT, not_false_eq_true, List.map_toArray, List.map_cons, List.map_nil, Option.isSome_some, Nat.reduceLT, Int.reduceToNat, Int.reducePow, Nat.reduceAdd, Int.toNat_natCast, Bool.not_true, Bool.not_false, Nat.mul_one, decide_true, decide_false, Bool.false_eq_true, List.getElem?_cons_zero, List.getElem?_cons_succ, Int.reduceEq, Option.map_some, Option.map_none, at_add, add_zero', Nat.zero_add, Nat.add_zero, Nat.zero_mul, List.getElem?_toArray, List.length_cons, List.length_nil, allOne_nil, allOne_cons, Bool.and_true, Bool.true_and, Nat.reduceLT, Nat.reduceLeDiff, Int.reduceLE, List.append_toArray, List.cons_append, List.nil_append, List.append_nil, z]
    exact ⟨trivial, foot g m R, h, Fx.refl _ _, fun k hk => .inl hk⟩
  · have z : ¬ (4 : Int) ≤ (T.l.length : Int) := by omega
    rw [if_neg h4]
    have e1 := u32_id (n := T.last + 1) (by have := hR.last0; omega) (by omega)
    simp -implicitDefEqProofs only [go_sem, ↓reduceIte, Nat.reduceEqDiff, Int.reduceLT, not_false_eq_true, List.map_toArray, List.map_cons, List.map_nil, Option.isSome_some, Nat.reduceLT, Int.reduceToNat, Int.reducePow, Nat.reduceAdd, Int.toNat_natCast, Bool.not_true, Bool.not_false, Nat.mul_one, decide_true, decide_false, Bool.false_eq_true, List.getElem?_cons_zero, List.getElem?_cons_succ, Int.reduceEq, Option.map_some, Option.map_none, at_add, add_zero', Nat.zero_add, Nat.add_zero, Nat.zero_mul, List.getElem?_toArray, List.length_cons, List.length_nil, allOne_nil, allOne_cons, Bool.and_true, Bool.true_and, Nat.reduceLT, Nat.reduceLeDiff, Int.reduceLE, List.append_toArray, List.cons_append, List.nil_append, List.append_nil, z, hR.box.cell, hR.box.frozen, e1]
    have hb1 : Blk _ _ _ _ := hR.box.set 1 (.int .u32 (T.last + 1))
    have f1 : Fx (foot g m R) w (w.setCell (At g 1) (.int .u32 (T.last + 1))) := Fx.set _ _ _ (.inl rfl)
    have fo : Fx (only g) w (w.setCell (At g 1) (.int .u32 (T.last + 1))) := Fx.set _ _ _ rfl
    have hmg := hR.map.ne hR.box
    have hm1 := hR.map.fx fo hmg
    have hu1 : ∀ r ∈ R, UpB (w.setCell (At g 1) (.int .u32 (T.last + 1))) r := fun r hr => (hR.ups r hr).fx fo (fun e => by
      have e : r.k = g := e
      have h1 := (hR.ups r hr).1
      rw [e] at h1
      have h1 : w.heap[g]? = _ := h1
      have h2 : w.heap[g]? = _ := hR.box
      rw [h1] at h2; cases h2) (fun k hk e => by
      have e : k = g := e
      exact (hR.ups r hr).2.ne hR.box (by decide) (e ▸ hk))
    simp only [List.setIfInBounds_toArray, List.set_cons_succ, List.set_cons_zero] at hb1
    have s1 := f1.size
    generalize w.setCell (At g 1) (.int .u32 (T.last + 1)) = w1 at *
    have hd : Blk w1.drew g 64 #[.map (some m), .int .u32 (T.last + 1)] := hb1
    refine seg_intro (fun w' => Blk w' g 64 #[.map (some m), .int .u32 (T.last + 1)]) hd ?_
    simp -implicitDefEqProofs only [go_sem, ↓reduceIte, Nat.reduceEqDiff, Int.reduceLT, not_false_eq_true, List.map_toArray, List.map_cons, List.map_nil, Option.isSome_some, Nat.reduceLT, Int.reduceToNat, Int.reducePow, Nat.reduceAdd, Int.toNat_natCast, Bool.not_true, Bool.not_false, Nat.mul_one, decide_true, decide_false, Bool.false_eq_true, List.getElem?_cons_zero, List.getElem?_cons_succ, Int.reduceEq, Option.map_some, Option.map_none, at_add, add_zero', Nat.zero_add, Nat.add_zero, Nat.zero_mul, List.getElem?_toArray, List.length_cons, List.length_nil, allOne_nil, allOne_cons, Bool.and_true, Bool.true_and, Nat.reduceLT, Nat.reduceLeDiff, Int.reduceLE, List.append_toArray, List.cons_append, List.nil_append, List.append_nil]
    refine hld_intro (.map (some m)) hd (fun w' hw' => by simp -implicitDefEqProofs only [go_sem, ↓reduceIte, Nat.reduceEqDiff, Int.reduceLT, not_false_eq_true, List.map_toArray, List.map_cons, List.map_nil, Option.isSome_some, Nat.reduceLT, Int.reduceToNat, Int.reducePow, Nat.reduceAdd, Int.toNat_natCast, Bool.not_true, Bool.not_false, Nat.mul_one, decide_true, decide_false, Bool.false_eq_true, List.getElem?_cons_zero, List.getElem?_cons_succ, Int.reduceEq, Option.map_some, Option.map_none, at_add, add_zero', Nat.zero_add, Nat.add_zero, Nat.zero_mul, List.getElem?_toArray, List.length_cons, List.length_nil, allOne_nil, allOne_cons, Bool.and_true, Bool.true_and, Nat.reduceLT, Nat.reduceLeDiff, Int.reduceLE, List.append_toArray, List.cons_append, List.nil_append, List.append_nil, hw'.cell]; exact ⟨trivial, trivial⟩) ?_
    simp -implicitDefEqProofs only [go_sem, ↓reduceIte, Nat.reduceEqDiff, Int.reduceLT, not_false_eq_true, List.map_toArray, List.map_cons, List.map_nil, Option.isSome_some, Nat.reduceLT, Int.reduceToNat, Int.reducePow, Nat.reduceAdd, Int.toNat_natCast, Bool.not_true, Bool.not_false, Nat.mul_one, decide_true, decide_false, Bool.false_eq_true, List.getElem?_cons_zero, List.getElem?_cons_succ, Int.reduceEq, Option.map_some, Option.map_none, at_add, add_zero', Nat.zero_add, Nat.add_zero, Nat.zero_mul, List.getElem?_toArray, List.length_cons, List.length_nil, allOne_nil, allOne_cons, Bool.and_true, Bool.true_and, Nat.reduceLT, Nat.reduceLeDiff, Int.reduceLE, List.append_toArray, List.cons_append, List.nil_append, List.append_nil]
    refine hld_intro (.int .u32 (T.last + 1)) hd (fun w' hw' => by simp -implicitDefEqProofs only [go_sem, ↓reduceIte, Nat.reduceEqDiff, Int.reduceLT, not_false_eq_true, List.map_toArray, List.map_cons, List.map_nil, Option.isSome_some, Nat.reduceLT, Int.reduceToNat, Int.reducePow, Nat.reduceAdd, Int.toNat_natCast, Bool.not_true, Bool.not_false, Nat.mul_one, decide_true, decide_false, Bool.false_eq_true, List.getElem?_cons_zero, List.getElem?_cons_succ, Int.reduceEq, Option.map_some, Option.map_none, at_add, add_zero', Nat.zero_add, Nat.add_zero, Nat.zero_mul, List.getElem?_toArray, List.length_cons, List.length_nil, allOne_nil, allOne_cons, Bool.and_true, Bool.true_and, Nat.reduceLT, Nat.reduceLeDiff, Int.reduceLE, List.append_toArray, List.cons_append, List.nil_append, List.append_nil, hw'.cell]; exact ⟨trivial, trivial⟩) ?_
    simp -implicitDefEqProofs only [go_sem, ↓reduceIte, Nat.reduceEqDiff, Int.reduceLT, not_false_eq_true, List.map_toArray, List.map_cons, List.map_nil, Option.isSome_some, Nat.reduceLT, Int.reduceToNat, Int.reducePow, Nat.reduceAdd, Int.toNat_natCast, Bool.not_true, Bool.not_false, Nat.mul_one, decide_true, decide_false, Bool.false_eq_true, List.getElem?_cons_zero, List.getElem?_cons_succ, Int.reduceEq, Option.map_some, Option.map_none, at_add, add_zero', Nat.zero_add, Nat.add_zero, Nat.zero_mul, List.getElem?_toArray, List.length_cons, List.length_nil, allOne_nil, allOne_cons, Bool.and_true, Bool.true_and, Nat.reduceLT, Nat.reduceLeDiff, Int.reduceLE, List.append_toArray, List.cons_append, List.nil_append, List.append_nil]
    have kA : Keep w1 ((w1.alloc (.cells #[.int .u64 owner, .string name, .slice none 0 0, .int .u32 0] 67)).drew) := (Fx.alloc _ w1 _).tr (Fx.drew _ _)
    have hbn : Blk _ _ _ _ := (Blk.new w1 67 #[.int .u64 owner, .string name, .slice none 0 0, .int .u32 0]).drew
    have s2 : ((w1.alloc (.cells #[.int .u64 owner, .string name, .slice none 0 0, .int .u32 0] 67)).drew).heap.size = w1.heap.size + 1 := size_alloc w1 (.cells #[.int .u64 owner, .string name, .slice none 0 0, .int .u32 0] 67)
    have hb2 := kA.blk hb1 (fun x => x)
    have hm2 := hm1.fx kA (fun x => x)
    have hu2 : ∀ r ∈ R, UpB ((w1.alloc (.cells #[.int .u64 owner, .string name, .slice none 0 0, .int .u32 0] 67)).drew) r := fun r hr => (hu1 r hr).fx kA (fun x => x) (fun _ _ x => x)
    generalize (w1.alloc (.cells #[.int .u64 owner, .string name, .slice none 0 0, .int .u32 0] 67)).drew = w2 at *
    refine goE_intro hb2 ?_
    have ed : w1.drew.heap.size = w1.heap.size := rfl
    simp -implicitDefEqProofs only [go_sem, ↓reduceIte, Nat.reduceEqDiff, Int.reduceLT, not_false_eq_true, List.map_toArray, List.map_cons, List.map_nil, Option.isSome_some, Nat.reduceLT, Int.reduceToNat, Int.reducePow, Nat.reduceAdd, Int.toNat_natCast, Bool.not_true, Bool.not_false, Nat.mul_one, decide_true, decide_false, Bool.false_eq_true, List.getElem?_cons_zero, List.getElem?_cons_succ, Int.reduceEq, Option.map_some, Option.map_none, at_add, add_zero', Nat.zero_add, Nat.add_zero, Nat.zero_mul, List.getElem?_toArray, List.length_cons, List.length_nil, allOne_nil, allOne_cons, Bool.and_true, Bool.true_and, Nat.reduceLT, Nat.reduceLeDiff, Int.reduceLE, List.append_toArray, List.cons_append, List.nil_append, List.append_nil, ed]
    refine updK_of Try.underlying62 Try.underlying26 hm2 (fnd_new fun r hr => by have := hR.nums r hr; omega) _ ?_
    have f3 : Fx (fun k => k = m) w2 (setMap w2 m .u32 (R.map Row.ent ++ [⟨T.last + 1, .pointer (some (At w1.heap.size 0)), clock⟩]) (clock + 1)) := Fx.setMap _ _
    have hm3 := hm2.set (R.map Row.ent ++ [⟨T.last + 1, .pointer (some (At w1.heap.size 0)), clock⟩]) (clock + 1)
    have hb3 := f3.blk hb2 (fun e => hmg e.symm)
    have hbn3 := f3.blk hbn (fun e => by
      have e : w1.heap.size = m := e
      have := hm1.lt
      omega)
    have hu3 : ∀ r ∈ R, UpB (setMap w2 m .u32 (R.map Row.ent ++ [⟨T.last + 1, .pointer (some (At w1.heap.size 0)), clock⟩]) (clock + 1)) r := fun r hr => (hu2 r hr).fx f3 (fun e => by
      exact hm2.ne (hu2 r hr).1 e.symm) (fun k hk e => by
      have e : k = m := e
      exact (hu2 r hr).2.ne_map hm2 (e ▸ hk))
    generalize setMap w2 m .u32 (R.map Row.ent ++ [⟨T.last + 1, .pointer (some (At w1.heap.size 0)), clock⟩]) (clock + 1) = w3 at *
    simp -implicitDefEqProofs only [go_sem, ↓reduceIte, Nat.reduceEqDiff, Int.reduceLT, not_false_eq_true, List.map_toArray, List.map_cons, List.map_nil, Option.isSome_some, Nat.reduceLT, Int.reduceToNat, Int.reducePow, Nat.reduceAdd, Int.toNat_natCast, Bool.not_true, Bool.not_false, Nat.mul_one, decide_true, decide_false, Bool.false_eq_true, List.getElem?_cons_zero, List.getElem?_cons_succ, Int.reduceEq, Option.map_some, Option.map_none, at_add, add_zero', Nat.zero_add, Nat.add_zero, Nat.zero_mul, List.getElem?_toArray, List.length_cons, List.length_nil, allOne_nil, allOne_cons, Bool.and_true, Bool.true_and, Nat.reduceLT, Nat.reduceLeDiff, Int.reduceLE, List.append_toArray, List.cons_append, List.nil_append, List.append_nil, hb3.cell]
    refine ⟨trivial, foot g m (R ++ [⟨⟨T.last + 1, owner, name, [], 0⟩, w1.heap.size, .slice none 0 0, clock⟩]), ⟨m, clock + 1, R ++ [⟨⟨T.last + 1, owner, name, [], 0⟩, w1.heap.size, .slice none 0 0, clock⟩], ⟨hb3, by simpa [Row.ent] using hm3, ?_, ?_, ?_, ?_, by have := hR.last0; show (0 : Int) ≤ T.last + 1; omega⟩, by simp [hT], rfl⟩, ((f1.keep kA).new f3 (fun k e _ => .inr (.inl e))), ?_⟩
    · intro r hr
      rcases List.mem_append.1 hr with hr | hr
      · exact hu3 r hr
      · simp at hr
        subst hr
        exact ⟨hbn3, OwnI.nil _ _ _ _⟩
    · intro r hr
      rcases List.mem_append.1 hr with hr | hr
      · have := hR.born r hr; omega
      · simp at hr
        subst hr
        exact Nat.lt_succ_self _
    · intro r hr
      have := hR.last0
      rcases List.mem_append.1 hr with hr | hr
      · have := hR.nums r hr
        show 1 ≤ r.u.n ∧ r.u.n ≤ T.last + 1
        omega
      · simp at hr
        subst hr
        show 1 ≤ T.last + 1 ∧ T.last + 1 ≤ T.last + 1
        omega
    · refine List.pairwise_append.2 ⟨hR.ne, List.pairwise_singleton _ _, fun r hr s hs => ?_⟩
      simp at hs
      subst hs
      refine ⟨?_, ?_, ?_, fun b _ e => by cases e⟩
      · have := hR.nums r hr
        show r.u.n ≠ T.last + 1
        omega
      · have := (hu1 r hr).1.lt
        show r.k ≠ w1.heap.size
        omega
      · have := hR.born r hr
        show r.born ≠ clock
        omega
    · intro k hk
      rcases hk with rfl | rfl | ⟨r, hr, hk⟩
      · exact .inl (.inl rfl)
      · exact .inl (.inr (.inl rfl))
      · rcases List.mem_append.1 hr with hr | hr
        · exact .inl (.inr (.inr ⟨r, hr, hk⟩))
        · simp at hr
          subst hr
          rcases hk with rfl | hk
          · exact .inr (by show w.heap.size ≤ w1.heap.size; omega)
          · cases hk
end
end Go.Proofs.Ytdnlnaeonhbfiaa.F
