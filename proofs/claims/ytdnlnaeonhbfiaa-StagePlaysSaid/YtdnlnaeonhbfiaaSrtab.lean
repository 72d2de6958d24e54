/- The document's own table of uploads, a slice of structs, and the calls on it. Conditions: those of the table. -/
import Derived.Test.YtdnlnaeonhbfiaaSlive
import Derived.Test.YtdnlnaeonhbfiaaGrefl
namespace Go.Proofs.Ytdnlnaeonhbfiaa.M
open Go.RowKit Go.Proofs.Ytdnlnaeonhbfiaa.V
def kRUp : Kind Up := ((Kind.int .u32).pair ((Kind.int .u64).pair (Kind.str.pair (kBytes.pair (Kind.int .i64))))).of fun u => (u.n, u.owner, u.name, u.b, u.page)
theorem kRUp_cases {U : Nat → Prop} {w : World} {x : Up} {cs : List Value} (h : kRUp.rep U w x cs) : ∃ A c, cs = [.int .u32 x.n, .int .u64 x.owner, .string x.name, .slice A x.b.length c, .int .i64 x.page] ∧ (Lit.int .u32 x.n).wf = true ∧ (Lit.int .u64 x.owner).wf = true ∧ x.name.size ≤ maxLen ∧ (Lit.int .i64 x.page).wf = true ∧
    x.b.length ≤ c ∧ c ≤ maxLen ∧ Elems (Kind.int .u8) U w A x.b := by
  obtain ⟨_, _, rfl, ⟨rfl, h1⟩, _, _, rfl, ⟨rfl, h2⟩, _, _, rfl, ⟨rfl, h3⟩, _, _, rfl, h4, ⟨rfl, h5⟩⟩ := h
  obtain ⟨A, c, rfl, a1, a2, a3⟩ := h4
  exact ⟨A, c, rfl, h1, h2, h3, h5, a1, a2, a3⟩
theorem kRUp_mk {U : Nat → Prop} {w : World} {x : Up} {v : Value} (h1 : (Lit.int .u32 x.n).wf = true) (h2 : (Lit.int .u64 x.owner).wf = true) (h3 : x.name.size ≤ maxLen) (h4 : kBytes.rep U w x.b [v]) (h5 : (Lit.int .i64 x.page).wf = true) :
    kRUp.rep U w x [.int .u32 x.n, .int .u64 x.owner, .string x.name, v, .int .i64 x.page] :=
  ⟨[.int .u32 x.n], _, rfl, ⟨rfl, h1⟩, [.int .u64 x.owner], _, rfl, ⟨rfl, h2⟩, [.string x.name], _, rfl, ⟨rfl, h3⟩, [v], _, rfl, h4, rfl, h5⟩
theorem flat_set {css : List (List Value)} {sz : Nat} (h : ∀ vs ∈ css, vs.length = sz) : ∀ {i o : Nat} {vs : List Value} {u : Value}, css[i]? = some vs → o < sz → css.flatten.set (i * sz + o) u = (css.set i (vs.set o u)).flatten := by
  induction css with
  | nil => intro i o vs u hi; simp at hi
  | cons c css ih =>
    intro i o vs u hi ho
    have hc := h c (by simp)
    cases i with
    | zero =>
      cases hi
      rw [List.flatten_cons, Nat.zero_mul, Nat.zero_add, List.set_append, if_pos (by omega), List.set_cons_zero, List.flatten_cons]
    | succ i =>
      have := ih (fun vs hv => h vs (by simp [hv])) (i := i) (vs := vs) (u := u) hi ho
      rw [List.flatten_cons, List.set_append, if_neg (by rw [hc, Nat.succ_mul]; omega), hc, show (i + 1) * sz + o - sz = i * sz + o by rw [Nat.succ_mul]; omega, this, List.set_cons_succ, List.flatten_cons]
/-- One cell of an element of an owned row is written. -/
theorem OwnR.set {α : Type} {K : Kind α} {e : TypeId} {U : Nat → Prop} {lo b n c : Nat} {w : World} {xs : List α} (h : OwnR K e U lo w (.slice (some (At b 0)) n c) xs) {i o : Nat} {x y : α} {u : Value} (hi : xs[i]? = some x) (ho : o < K.sz) (h1 : u.oneCell' = true)
    (hy : ∀ cs, K.rep (fun k => U k ∧ k ≠ b) w x cs → K.rep (fun k => U k ∧ k ≠ b) w y (cs.set o u)) :
    w.frozen? (At b (i * K.sz + o)) = false ∧ (w.cell? (At b (i * K.sz + o))).isSome = true ∧ OwnR K e U lo (w.setCell (At b (i * K.sz + o)) u) (.slice (some (At b 0)) n c) (xs.set i y) := by
  obtain ⟨css, h1', hl, h2⟩ := h
  have hlen := OwnR.lens hl h2
  have hlt := (List.getElem?_eq_some_iff.1 hi).1
  have hob : ∀ k, (Value.slice (some (At b 0)) n c).ownBlock ≠ some k ↔ k ≠ b := fun k => by
    show (some b ≠ some k) ↔ _
    constructor
    · intro h e; exact h (by rw [e])
    · intro h e; cases e; exact h rfl
  obtain ⟨vs, hvs, hr⟩ := h2 i x hi
  have hvl := K.len hr
  rcases h1'.2 with ⟨hv, hn⟩ | ⟨g', cap, cur, hv, hb, hg, hc, hm, hs, ht⟩
  · omega
  · injection hv with e1 e2 e3
    have e1 : b = g' := by injection e1 with e1; injection e1
    subst e1
    subst e3
    have hB : Blk w b e cur := hg
    have hfl : css.flatten.length = xs.length * K.sz := h1'.1
    have hpos : i * K.sz + o < xs.length * K.sz := by
      have : (i + 1) * K.sz ≤ xs.length * K.sz := Nat.mul_le_mul_right _ hlt
      rw [Nat.succ_mul] at this
      omega
    have hcs : i * K.sz + o < cur.size := by
      rw [hs]
      exact Nat.lt_of_lt_of_le hpos (Nat.mul_le_mul_right _ hc)
    refine ⟨hB.frozen _, by rw [hB.cell]; simp [Array.getElem?_eq_getElem hcs], ?_⟩
    have hf : Fx (fun k => k = b) w (w.setCell (At b (i * K.sz + o)) u) := Fx.set _ _ _ rfl
    refine ⟨css.set i (vs.set o u), ⟨?_, .inr ⟨b, c, cur.setIfInBounds (i * K.sz + o) u, by rw [List.length_set, e2], hb, hB.set _ _, by rw [List.length_set]; exact hc, hm, by simpa using hs, ?_⟩⟩, by simp [hl], fun j z hz => ?_⟩
    · rw [← flat_set hlen hvs ho, List.length_set, List.length_set]; exact hfl
    · rw [← flat_set hlen hvs ho, List.length_set]
      simp only [Array.toList_setIfInBounds]
      rw [List.take_set, ht]
    · by_cases hij : i = j
      · subst hij
        rw [List.getElem?_set_self hlt] at hz
        cases hz
        refine ⟨vs.set o u, by rw [List.getElem?_set_self (by omega)], ?_⟩
        refine K.mono (K.fx (hy vs (K.mono hr fun k _ hk => ⟨hk.1, (hob k).1 hk.2⟩)) hf (fun k hk e => hk.2 e)) fun k _ hk => ⟨hk.1, (hob k).2 hk.2⟩
      · rw [List.getElem?_set_ne hij] at hz
        obtain ⟨vs', ha, hb'⟩ := h2 j z hz
        exact ⟨vs', by rw [List.getElem?_set_ne hij]; exact ha, K.fx hb' hf (fun k hk e => (hob k).1 hk.2 e)⟩
end Go.Proofs.Ytdnlnaeonhbfiaa.M
namespace Go.Proofs.Ytdnlnaeonhbfiaa.F
open Go.RowKit Go.Proofs.Ytdnlnaeonhbfiaa.M Go.Proofs.Ytdnlnaeonhbfiaa.V
set_option linter.unusedSimpArgs false
set_option linter.unusedVariables false
set_option maxRecDepth 20000

/-- The document's table, and blocks that hold all it has. -/
def RTab (w : World) (g : Nat) (T : Tb) (G : Nat → Prop) : Prop :=
  ∃ v, Blk w g 42 #[v, .int .u32 T.last] ∧ OwnR kRUp 47 (fun k => G k ∧ k ≠ g) 0 w v T.l ∧ G g ∧ (∀ k, v.ownBlock = some k → G k) ∧ (∀ k, G k → k < w.heap.size)
theorem RTab.fx {w w' : World} {g : Nat} {T : Tb} {G b : Nat → Prop} (h : RTab w g T G) (hf : Fx b w w') (hn : ∀ k, G k → ¬ b k) : RTab w' g T G := by
  obtain ⟨v, h1, h2, h3, h4, h5⟩ := h
  have hs := hf.size
  exact ⟨v, hf.blk h1 (hn g h3), h2.fx hf (fun k hk _ => hn k hk.1) (fun k hk => hn k (h4 k hk)), h3, h4, fun k hk => by have := h5 k hk; omega⟩
def RStep (w w' : World) (g : Nat) (T' : Tb) (G : Nat → Prop) : Prop := ∃ G', RTab w' g T' G' ∧ Fx G w w' ∧ ∀ k, G' k → G k ∨ w.heap.size ≤ k
theorem RStep.new {w0 w w' : World} {g : Nat} {T' : Tb} {G : Nat → Prop} (h : RStep w w' g T' G) (hk : Keep w0 w) (hG : ∀ k, G k → w0.heap.size ≤ k) : ∃ G', RTab w' g T' G' ∧ (∀ k, G' k → w0.heap.size ≤ k) ∧ Keep w0 w' := by
  obtain ⟨G', h1, h2, h3⟩ := h
  have hs := hk.size
  exact ⟨G', h1, fun k hk => by rcases h3 k hk with h | h; exact hG k h; omega, hk.new h2 (fun k hk hlt => by have := hG k hk; omega)⟩
theorem i64_len {n : Nat} (h : n ≤ maxLen) : n ≤ 9223372036854775807 := by simp only [maxLen] at h; omega
theorem up_at {e : TypeId} {U : Nat → Prop} {lo : Nat} {w : World} {v : Value} {l : List Up} (h : OwnR kRUp e U lo w v l) {i : Nat} {u : Up} (hi : l[i]? = some u) : ∃ b n c B d, v = .slice (some (At b 0)) n c ∧ n = l.length ∧ l.length ≤ c ∧ c ≤ maxLen ∧ v.ownBlock = some b ∧
    CellsAt w (At b (i * 5)) [.int .u32 u.n, .int .u64 u.owner, .string u.name, .slice B u.b.length d, .int .i64 u.page] ∧ (Lit.int .u32 u.n).wf = true ∧ (Lit.int .u64 u.owner).wf = true ∧ u.name.size ≤ maxLen ∧ (Lit.int .i64 u.page).wf = true ∧ u.b.length ≤ d ∧ d ≤ maxLen ∧ Elems (Kind.int .u8) (fun k => U k ∧ k ≠ b) w B u.b := by
  obtain ⟨A, c, hv, hlc, hcm, hA⟩ := h.cap
  rcases hA with rfl | ⟨b, rfl, hb⟩
  · simp at hi
  obtain ⟨css, h1, hl, h2⟩ := h
  obtain ⟨vs, hc1, hr⟩ := h2 i u hi
  obtain ⟨B, d, rfl, a1, a2, a3, a4, a5, a6, a7⟩ := kRUp_cases hr
  refine ⟨b, l.length, c, B, d, hv, rfl, hlc, hcm, hb, fun j x hx => ?_, a1, a2, a3, a4, a5, a6, a7.mono Nat.zero_lt_one fun k _ hk => ⟨hk.1, fun e => hk.2 (by rw [hb, e])⟩⟩
  have := World.ownsRow.cells h1 (g := b) hb (i * kRUp.sz + j) x (flat_at (OwnR.lens hl h2) hc1 j x hx)
  rw [at_add] at this ⊢
  rw [Nat.zero_add] at this
  exact this

section
variable {w : World} {g : Nat} {T : Tb} {G : Nat → Prop}
theorem rlen {v : Value} {e : TypeId} {U : Nat → Prop} {lo : Nat} {l : List Up} (h : OwnR kRUp e U lo w v l) : ∃ A c, v = .slice A l.length c ∧ l.length ≤ 9223372036854775807 := by
  obtain ⟨A, c, hv, h1, h2, _⟩ := h.cap
  exact ⟨A, c, hv, by simp only [maxLen] at h2; omega⟩
theorem at_calls (h : RTab w g T G) (owner n : Int) : callK Try.prog 17 #[.pointer (some (At g 0)), .int .u64 owner, .int .u32 n] w fun v w' => v = .int .i64 ((fUp owner n T.l 0).elim (-1) (fun x => (x.1 : Int))) ∧ w' = w := by
  obtain ⟨v, hb, ho, hGg, hGo, hGl⟩ := h
  obtain ⟨A0, c0, hv, hlen⟩ := rlen ho
  refine callK_of Try.func17 c17 r17 (by exact Nat.le_of_ble_eq_true rfl) ?_
  rw [m17]
  simp -implicitDefEqProofs only [go_sem, ↓reduceIte, Nat.reduceEqDiff, Int.reduceLT, not_false_eq_true, List.map_toArray, List.map_cons, List.map_nil, Option.isSome_some, Nat.reduceLT, Int.reduceToNat, Int.reducePow, Nat.reduceAdd, Int.toNat_natCast, Bool.not_true, Bool.not_false, Nat.mul_one, decide_true, decide_false, Bool.false_eq_true, List.getElem?_cons_zero, List.getElem?_cons_succ, Int.reduceEq, Option.map_some, Option.map_none, at_add, add_zero', Nat.zero_add, Nat.add_zero, Nat.zero_mul, List.getElem?_toArray, List.length_cons, List.length_nil, allOne_nil, allOne_cons, Bool.and_true, Bool.true_and, Nat.reduceLT, Nat.reduceLeDiff, Int.reduceLE, List.append_toArray, List.cons_append, List.nil_append, List.append_nil]
  have hb' := hb.cell 0
  rw [hv] at hb'
  refine loop_intro (fun q f w' => ∃ i : Nat, q = T.l.length - i ∧ i ≤ T.l.length ∧ f 0 = .pointer (some (At g 0)) ∧ f 1 = .int .u64 owner ∧ f 2 = .int .u32 n ∧ f 7 = .int .i64 i ∧ fUp owner n T.l 0 = fUp owner n (T.l.drop i) i ∧ w' = w) T.l.length
    ⟨0, rfl, by omega, by simp -implicitDefEqProofs only [go_sem, ↓reduceIte, Nat.reduceEqDiff, Int.reduceLT, not_false_eq_true, List.map_toArray, List.map_cons, List.map_nil, Option.isSome_some, Nat.reduceLT, Int.reduceToNat, Int.reducePow, Nat.reduceAdd, Int.toNat_natCast, Bool.not_true, Bool.not_false, Nat.mul_one, decide_true, decide_false, Bool.false_eq_true, List.getElem?_cons_zero, List.getElem?_cons_succ, Int.reduceEq, Option.map_some, Option.map_none, at_add, add_zero', Nat.zero_add, Nat.add_zero, Nat.zero_mul, List.getElem?_toArray, List.length_cons, List.length_nil, allOne_nil, allOne_cons, Bool.and_true, Bool.true_and, Nat.reduceLT, Nat.reduceLeDiff, Int.reduceLE, List.append_toArray, List.cons_append, List.nil_append, List.append_nil], by simp -implicitDefEqProofs only [go_sem, ↓reduceIte, Nat.reduceEqDiff, Int.reduceLT, not_false_eq_true, List.map_toArray, List.map_cons, List.map_nil, Option.isSome_some, Nat.reduceLT, Int.reduceToNat, Int.reducePow, Nat.reduceAdd, Int.toNat_natCast, Bool.not_true, Bool.not_false, Nat.mul_one, decide_true, decide_false, Bool.false_eq_true, List.getElem?_cons_zero, List.getElem?_cons_succ, Int.reduceEq, Option.map_some, Option.map_none, at_add, add_zero', Nat.zero_add, Nat.add_zero, Nat.zero_mul, List.getElem?_toArray, List.length_cons, List.length_nil, allOne_nil, allOne_cons, Bool.and_true, Bool.true_and, Nat.reduceLT, Nat.reduceLeDiff, Int.reduceLE, List.append_toArray, List.cons_append, List.nil_append, List.append_nil], by simp -implicitDefEqProofs only [go_sem, ↓reduceIte, Nat.reduceEqDiff, Int.reduceLT, not_false_eq_true, List.map_toArray, List.map_cons, List.map_nil, Option.isSome_some, Nat.reduceLT, Int.reduceToNat, Int.reducePow, Nat.reduceAdd, Int.toNat_natCast, Bool.not_true, Bool.not_false, Nat.mul_one, decide_true, decide_false, Bool.false_eq_true, List.getElem?_cons_zero, List.getElem?_cons_succ, Int.reduceEq, Option.map_some, Option.map_none, at_add, add_zero', Nat.zero_add, Nat.add_zero, Nat.zero_mul, List.getElem?_toArray, List.length_cons, List.length_nil, allOne_nil, allOne_cons, Bool.and_true, Bool.true_and, Nat.reduceLT, Nat.reduceLeDiff, Int.reduceLE, List.append_toArray, List.cons_append, List.nil_append, List.append_nil], by simp -implicitDefEqProofs only [go_sem, ↓reduceIte, Nat.reduceEqDiff, Int.reduceLT, not_false_eq_true, List.map_toArray, List.map_cons, List.map_nil, Option.isSome_some, Nat.reduceLT, Int.reduceToNat, Int.reducePow, Nat.reduceAdd, Int.toNat_natCast, Bool.not_true, Bool.not_false, Nat.mul_one, decide_true, decide_false, Bool.false_eq_true, List.getElem?_cons_zero, List.getElem?_cons_succ, Int.reduceEq, Option.map_some, Option.map_none, at_add, add_zero', Nat.zero_add, Nat.add_zero, Nat.zero_mul, List.getElem?_toArray, List.length_cons, List.length_nil, allOne_nil, allOne_cons, Bool.and_true, Bool.true_and, Nat.reduceLT, Nat.reduceLeDiff, Int.reduceLE, List.append_toArray, List.cons_append, List.nil_append, List.append_nil]; rfl, by simp, rfl⟩ ?_
  rintro q f w1 ⟨i, rfl, hi, g0, g1, g2, g7, hf, rfl⟩
  by_cases hlt : i < T.l.length
  · have i1 : (i : Int) < (T.l.length : Int) := by omega
    have i0 : (0 : Int) ≤ (i : Int) := by omega
    obtain ⟨u, hu⟩ : ∃ u, T.l[i]? = some u := ⟨_, List.getElem?_eq_getElem hlt⟩
    obtain ⟨b, n', c, B, d, hv2, rfl, _, _, hob, hca, _⟩ := up_at ho hu
    rw [hv2] at hv
    cases hv
    have k0 : w1.cell? (At b (i * 5)) = some (.int .u32 u.n) := by have := hca 0 _ rfl; rwa [add_zero'] at this
    have k1 : w1.cell? (At b (i * 5 + 1)) = some (.int .u64 u.owner) := by have := hca 1 _ rfl; rwa [at_add] at this
    rw [List.drop_eq_getElem_cons hlt] at hf
    have hu' : T.l[i] = u := (List.getElem?_eq_some_iff.1 hu).2
    rw [hu'] at hf
    have en : IntKind.i64.wrap ((i : Int) + 1) = ((i + 1 : Nat) : Int) := i64_nat (by omega) (by omega)
    simp only [fUp] at hf
    by_cases hn : u.n = n
    · have z : (u.n == n) = true := by rw [beq_iff_eq]; exact hn
      by_cases hown : u.owner = owner
      · have z1 : (u.owner == owner) = true := by rw [beq_iff_eq]; exact hown
        simp -implicitDefEqProofs only [go_sem, ↓reduceIte, Nat.reduceEqDiff, Int.reduceLT, not_false_eq_true, List.map_toArray, List.map_cons, List.map_nil, Option.isSome_some, Nat.reduceLT, Int.reduceToNat, Int.reducePow, Nat.reduceAdd, Int.toNat_natCast, Bool.not_true, Bool.not_false, Nat.mul_one, decide_true, decide_false, Bool.false_eq_true, List.getElem?_cons_zero, List.getElem?_cons_succ, Int.reduceEq, Option.map_some, Option.map_none, at_add, add_zero', Nat.zero_add, Nat.add_zero, Nat.zero_mul, List.getElem?_toArray, List.length_cons, List.length_nil, allOne_nil, allOne_cons, Bool.and_true, Bool.true_and, Nat.reduceLT, Nat.reduceLeDiff, Int.reduceLE, List.append_toArray, List.cons_append, List.nil_append, List.append_nil, g0, g1, g2, g7, hb', i0, i1, k0, k1, z, z1]
        rw [if_pos ⟨hn, hown⟩] at hf
        rw [hf]
        exact ⟨rfl, trivial⟩
      · have z1 : (u.owner == owner) = false := by rw [beq_eq_false_iff_ne]; exact hown
        simp -implicitDefEqProofs only [go_sem, ↓reduceIte, Nat.reduceEqDiff, Int.reduceLT, not_false_eq_true, List.map_toArray, List.map_cons, List.map_nil, Option.isSome_some, Nat.reduceLT, Int.reduceToNat, Int.reducePow, Nat.reduceAdd, Int.toNat_natCast, Bool.not_true, Bool.not_false, Nat.mul_one, decide_true, decide_false, Bool.false_eq_true, List.getElem?_cons_zero, List.getElem?_cons_succ, Int.reduceEq, Option.map_some, Option.map_none, at_add, add_zero', Nat.zero_add, Nat.add_zero, Nat.zero_mul, List.getElem?_toArray, List.length_cons, List.length_nil, allOne_nil, allOne_cons, Bool.and_true, Bool.true_and, Nat.reduceLT, Nat.reduceLeDiff, Int.reduceLE, List.append_toArray, List.cons_append, List.nil_append, List.append_nil, g0, g1, g2, g7, hb', i0, i1, k0, k1, z, z1, en]
        rw [if_neg (fun q => hown q.2)] at hf
        exact ⟨T.l.length - (i + 1), by omega, i + 1, rfl, by omega, by simp -implicitDefEqProofs only [go_sem, ↓reduceIte, Nat.reduceEqDiff, Int.reduceLT, not_false_eq_true, List.map_toArray, List.map_cons, List.map_nil, Option.isSome_some, Nat.reduceLT, Int.reduceToNat, Int.reducePow, Nat.reduceAdd, Int.toNat_natCast, Bool.not_true, Bool.not_false, Nat.mul_one, decide_true, decide_false, Bool.false_eq_true, List.getElem?_cons_zero, List.getElem?_cons_succ, Int.reduceEq, Option.map_some, Option.map_none, at_add, add_zero', Nat.zero_add, Nat.add_zero, Nat.zero_mul, List.getElem?_toArray, List.length_cons, List.length_nil, allOne_nil, allOne_cons, Bool.and_true, Bool.true_and, Nat.reduceLT, Nat.reduceLeDiff, Int.reduceLE, List.append_toArray, List.cons_append, List.nil_append, List.append_nil, g0], by simp -implicitDefEqProofs only [go_sem, ↓reduceIte, Nat.reduceEqDiff, Int.reduceLT, not_false_eq_true, List.map_toArray, List.map_cons, List.map_nil, Option.isSome_some, Nat.reduceLT, Int.reduceToNat, Int.reducePow, Nat.reduceAdd, Int.toNat_natCast, Bool.not_true, Bool.not_false, Nat.mul_one, decide_true, decide_false, Bool.false_eq_true, List.getElem?_cons_zero, List.getElem?_cons_succ, Int.reduceEq, Option.map_some, Option.map_none, at_add, add_zero', Nat.zero_add, Nat.add_zero, Nat.zero_mul, List.getElem?_toArray, List.length_cons, List.length_nil, allOne_nil, allOne_cons, Bool.and_true, Bool.true_and, Nat.reduceLT, Nat.reduceLeDiff, Int.reduceLE, List.append_toArray, List.cons_append, List.nil_append, List.append_nil, g1], by simp -implicitDefEqProofs only [go_sem, ↓reduceIte, Nat.reduceEqDiff, Int.reduceLT, not_false_eq_true, List.map_toArray, List.map_cons, List.map_nil, Option.isSome_some, Nat.reduceLT, Int.reduceToNat, Int.reducePow, Nat.reduceAdd, Int.toNat_natCast, Bool.not_true, Bool.not_false, Nat.mul_one, decide_true, decide_false, Bool.false_eq_true, List.getElem?_cons_zero, List.getElem?_cons_succ, Int.reduceEq, Option.map_some, Option.map_none, at_add, add_zero', Nat.zero_add, Nat.add_zero, Nat.zero_mul, List.getElem?_toArray, List.length_cons, List.length_nil, allOne_nil, allOne_cons, Bool.and_true, Bool.true_and, Nat.reduceLT, Nat.reduceLeDiff, Int.reduceLE, List.append_toArray, List.cons_append, List.nil_append, List.append_nil, g2], by simp -implicitDefEqProofs only [go_sem, ↓reduceIte, Nat.reduceEqDiff, Int.reduceLT, not_false_eq_true, List.map_toArray, List.map_cons, List.map_nil, Option.isSome_some, Nat.reduceLT, Int.reduceToNat, Int.reducePow, Nat.reduceAdd, Int.toNat_natCast, Bool.not_true, Bool.not_false, Nat.mul_one, decide_true, decide_false, Bool.false_eq_true, List.getElem?_cons_zero, List.getElem?_cons_succ, Int.reduceEq, Option.map_some, Option.map_none, at_add, add_zero', Nat.zero_add, Nat.add_zero, Nat.zero_mul, List.getElem?_toArray, List.length_cons, List.length_nil, allOne_nil, allOne_cons, Bool.and_true, Bool.true_and, Nat.reduceLT, Nat.reduceLeDiff, Int.reduceLE, List.append_toArray, List.cons_append, List.nil_append, List.append_nil], hf, rfl⟩
    · have z : (u.n == n) = false := by rw [beq_eq_false_iff_ne]; exact hn
      simp -implicitDefEqProofs only [go_sem, ↓reduceIte, Nat.reduceEqDiff, Int.reduceLT, not_false_eq_true, List.map_toArray, List.map_cons, List.map_nil, Option.isSome_some, Nat.reduceLT, Int.reduceToNat, Int.reducePow, Nat.reduceAdd, Int.toNat_natCast, Bool.not_true, Bool.not_false, Nat.mul_one, decide_true, decide_false, Bool.false_eq_true, List.getElem?_cons_zero, List.getElem?_cons_succ, Int.reduceEq, Option.map_some, Option.map_none, at_add, add_zero', Nat.zero_add, Nat.add_zero, Nat.zero_mul, List.getElem?_toArray, List.length_cons, List.length_nil, allOne_nil, allOne_cons, Bool.and_true, Bool.true_and, Nat.reduceLT, Nat.reduceLeDiff, Int.reduceLE, List.append_toArray, List.cons_append, List.nil_append, List.append_nil, g0, g1, g2, g7, hb', i0, i1, k0, z, en]
      rw [if_neg (fun q => hn q.1)] at hf
      exact ⟨T.l.length - (i + 1), by omega, i + 1, rfl, by omega, by simp -implicitDefEqProofs only [go_sem, ↓reduceIte, Nat.reduceEqDiff, Int.reduceLT, not_false_eq_true, List.map_toArray, List.map_cons, List.map_nil, Option.isSome_some, Nat.reduceLT, Int.reduceToNat, Int.reducePow, Nat.reduceAdd, Int.toNat_natCast, Bool.not_true, Bool.not_false, Nat.mul_one, decide_true, decide_false, Bool.false_eq_true, List.getElem?_cons_zero, List.getElem?_cons_succ, Int.reduceEq, Option.map_some, Option.map_none, at_add, add_zero', Nat.zero_add, Nat.add_zero, Nat.zero_mul, List.getElem?_toArray, List.length_cons, List.length_nil, allOne_nil, allOne_cons, Bool.and_true, Bool.true_and, Nat.reduceLT, Nat.reduceLeDiff, Int.reduceLE, List.append_toArray, List.cons_append, List.nil_append, List.append_nil, g0], by simp -implicitDefEqProofs only [go_sem, ↓reduceIte, Nat.reduceEqDiff, Int.reduceLT, not_false_eq_true, List.map_toArray, List.map_cons, List.map_nil, Option.isSome_some, Nat.reduceLT, Int.reduceToNat, Int.reducePow, Nat.reduceAdd, Int.toNat_natCast, Bool.not_true, Bool.not_false, Nat.mul_one, decide_true, decide_false, Bool.false_eq_true, List.getElem?_cons_zero, List.getElem?_cons_succ, Int.reduceEq, Option.map_some, Option.map_none, at_add, add_zero', Nat.zero_add, Nat.add_zero, Nat.zero_mul, List.getElem?_toArray, List.length_cons, List.length_nil, allOne_nil, allOne_cons, Bool.and_true, Bool.true_and, Nat.reduceLT, Nat.reduceLeDiff, Int.reduceLE, List.append_toArray, List.cons_append, List.nil_append, List.append_nil, g1], by simp -implicitDefEqProofs only [go_sem, ↓reduceIte, Nat.reduceEqDiff, Int.reduceLT, not_false_eq_true, List.map_toArray, List.map_cons, List.map_nil, Option.isSome_some, Nat.reduceLT, Int.reduceToNat, Int.reducePow, Nat.reduceAdd, Int.toNat_natCast, Bool.not_true, Bool.not_false, Nat.mul_one, decide_true, decide_false, Bool.false_eq_true, List.getElem?_cons_zero, List.getElem?_cons_succ, Int.reduceEq, Option.map_some, Option.map_none, at_add, add_zero', Nat.zero_add, Nat.add_zero, Nat.zero_mul, List.getElem?_toArray, List.length_cons, List.length_nil, allOne_nil, allOne_cons, Bool.and_true, Bool.true_and, Nat.reduceLT, Nat.reduceLeDiff, Int.reduceLE, List.append_toArray, List.cons_append, List.nil_append, List.append_nil, g2], by simp -implicitDefEqProofs only [go_sem, ↓reduceIte, Nat.reduceEqDiff, Int.reduceLT, not_false_eq_true, List.map_toArray, List.map_cons, List.map_nil, Option.isSome_some, Nat.reduceLT, Int.reduceToNat, Int.reducePow, Nat.reduceAdd, Int.toNat_natCast, Bool.not_true, Bool.not_false, Nat.mul_one, decide_true, decide_false, Bool.false_eq_true, List.getElem?_cons_zero, List.getElem?_cons_succ, Int.reduceEq, Option.map_some, Option.map_none, at_add, add_zero', Nat.zero_add, Nat.add_zero, Nat.zero_mul, List.getElem?_toArray, List.length_cons, List.length_nil, allOne_nil, allOne_cons, Bool.and_true, Bool.true_and, Nat.reduceLT, Nat.reduceLeDiff, Int.reduceLE, List.append_toArray, List.cons_append, List.nil_append, List.append_nil], hf, rfl⟩
  · have i1 : ¬ (i : Int) < (T.l.length : Int) := by omega
    simp -implicitDefEqProofs only [go_sem, ↓reduceIte, Nat.reduceEqDiff, Int.reduceLT, not_false_eq_true, List.map_toArray, List.map_cons, List.map_nil, Option.isSome_some, Nat.reduceLT, Int.reduceToNat, Int.reducePow, Nat.reduceAdd, Int.toNat_natCast, Bool.not_true, Bool.not_false, Nat.mul_one, decide_true, decide_false, Bool.false_eq_true, List.getElem?_cons_zero, List.getElem?_cons_succ, Int.reduceEq, Option.map_some, Option.map_none, at_add, add_zero', Nat.zero_add, Nat.add_zero, Nat.zero_mul, List.getElem?_toArray, List.length_cons, List.length_nil, allOne_nil, allOne_cons, Bool.and_true, Bool.true_and, Nat.reduceLT, Nat.reduceLeDiff, Int.reduceLE, List.append_toArray, List.cons_append, List.nil_append, List.append_nil, g0, g1, g2, g7, hb', i1]
    rw [hf, List.drop_of_length_le (by omega)]
    exact ⟨rfl, trivial⟩
theorem rbegin_calls (h : RTab w g T G) (hl0 : 0 ≤ T.last) (hl : T.last < 4294967295) (owner : Int) (name : ByteArray) (hwo : (Lit.int .u64 owner).wf = true) (hwn : name.size ≤ maxLen) :
    callK Try.prog 16 #[.pointer (some (At g 0)), .int .u64 owner, .string name] w fun v w' => v = .tuple #[.int .u32 (tBegin T owner name).1, .int .i64 (tBegin T owner name).2.1] ∧ RStep w w' g (tBegin T owner name).2.2 G := by
  obtain ⟨v, hb, ho, hGg, hGo, hGl⟩ := id h
  obtain ⟨A0, c0, hv, hlen⟩ := rlen ho
  refine callK_of Try.func16 c16 r16 (by exact Nat.le_of_ble_eq_true rfl) ?_
  rw [m16]
  have hb' := hb.cell 0
  rw [hv] at hb'
  unfold tBegin
  by_cases h4 : 4 ≤ T.l.length
  · have z : (4 : Int) ≤ (T.l.length : Int) := by omega
    rw [if_pos h4]
    simp -implicitDefEqProofs only [go_sem, ↓reduceIte, Nat.reduceEqDiff, Int.reduceLT, not_false_eq_true, List.map_toArray, List.map_cons, List.map_nil, Option.isSome_some, Nat.reduceLT, Int.reduceToNat, Int.reducePow, Nat.reduceAdd, Int.toNat_natCast, Bool.not_true, Bool.not_false, Nat.mul_one, decide_true, decide_false, Bool.false_eq_true, List.getElem?_cons_zero, List.getElem?_cons_succ, Int.reduceEq, Option.map_some, Option.map_none, at_add, add_zero', Nat.zero_add, Nat.add_zero, Nat.zero_mul, List.getElem?_toArray, List.length_cons, List.length_nil, allOne_nil, allOne_cons, Bool.and_true, Bool.true_and, Nat.reduceLT, Nat.reduceLeDiff, Int.reduceLE, List.append_toArray, List.cons_append, List.nil_append, List.append_nil, hb', z]
    exact ⟨trivial, G, h, Fx.refl _ _, fun k hk => .inl hk⟩
  · have z : ¬ (4 : Int) ≤ (T.l.length : Int) := by omega
    rw [if_neg h4]
    have e1 := u32_id (n := T.last + 1) (by omega) (by omega)
    have hb1 := hb.cell 1
    simp -implicitDefEqProofs only [go_sem, ↓reduceIte, Nat.reduceEqDiff, Int.reduceLT, not_false_eq_true, List.map_toArray, List.map_cons, List.map_nil, Option.isSome_some, Nat.reduceLT, Int.reduceToNat, Int.reducePow, Nat.reduceAdd, Int.toNat_natCast, Bool.not_true, Bool.not_false, Nat.mul_one, decide_true, decide_false, Bool.false_eq_true, List.getElem?_cons_zero, List.getElem?_cons_succ, Int.reduceEq, Option.map_some, Option.map_none, at_add, add_zero', Nat.zero_add, Nat.add_zero, Nat.zero_mul, List.getElem?_toArray, List.length_cons, List.length_nil, allOne_nil, allOne_cons, Bool.and_true, Bool.true_and, Nat.reduceLT, Nat.reduceLeDiff, Int.reduceLE, List.append_toArray, List.cons_append, List.nil_append, List.append_nil, hb', hb1, hb.frozen, z, e1]
    have hbx : Blk _ _ _ _ := hb.set 1 (.int .u32 (T.last + 1))
    have f1 : Fx G w (w.setCell (At g 1) (.int .u32 (T.last + 1))) := Fx.set _ _ _ hGg
    have fo : Fx (only g) w (w.setCell (At g 1) (.int .u32 (T.last + 1))) := Fx.set _ _ _ rfl
    have hng := ho.ne hb (by decide)
    have ho1 := ho.fx fo (fun k hk _ e => hk.2 e) (fun k hk e => by have e : k = g := e; exact hng (e ▸ hk))
    simp only [List.setIfInBounds_toArray, List.set_cons_succ, List.set_cons_zero] at hbx
    have s1 : (w.setCell (At g 1) (.int .u32 (T.last + 1))).heap.size = w.heap.size := by simp [World.setCell]
    generalize w.setCell (At g 1) (.int .u32 (T.last + 1)) = w1 at *
    have hd : Blk w1.drew g 42 #[v, .int .u32 (T.last + 1)] := hbx
    have hod : OwnR kRUp 47 (fun k => G k ∧ k ≠ g) 0 w1.drew v T.l := ho1.keep (Fx.drew _ _)
    have f1d : Fx G w w1.drew := f1.keep (Fx.drew _ _)
    have s1d : w1.drew.heap.size = w.heap.size := s1
    generalize w1.drew = w2 at *
    refine seg_intro (fun w' => Blk w' g 42 #[v, .int .u32 (T.last + 1)]) hd ?_
    simp -implicitDefEqProofs only [go_sem, ↓reduceIte, Nat.reduceEqDiff, Int.reduceLT, not_false_eq_true, List.map_toArray, List.map_cons, List.map_nil, Option.isSome_some, Nat.reduceLT, Int.reduceToNat, Int.reducePow, Nat.reduceAdd, Int.toNat_natCast, Bool.not_true, Bool.not_false, Nat.mul_one, decide_true, decide_false, Bool.false_eq_true, List.getElem?_cons_zero, List.getElem?_cons_succ, Int.reduceEq, Option.map_some, Option.map_none, at_add, add_zero', Nat.zero_add, Nat.add_zero, Nat.zero_mul, List.getElem?_toArray, List.length_cons, List.length_nil, allOne_nil, allOne_cons, Bool.and_true, Bool.true_and, Nat.reduceLT, Nat.reduceLeDiff, Int.reduceLE, List.append_toArray, List.cons_append, List.nil_append, List.append_nil]
    refine hld_intro v hd (fun w' hw' => by simp -implicitDefEqProofs only [go_sem, ↓reduceIte, Nat.reduceEqDiff, Int.reduceLT, not_false_eq_true, List.map_toArray, List.map_cons, List.map_nil, Option.isSome_some, Nat.reduceLT, Int.reduceToNat, Int.reducePow, Nat.reduceAdd, Int.toNat_natCast, Bool.not_true, Bool.not_false, Nat.mul_one, decide_true, decide_false, Bool.false_eq_true, List.getElem?_cons_zero, List.getElem?_cons_succ, Int.reduceEq, Option.map_some, Option.map_none, at_add, add_zero', Nat.zero_add, Nat.add_zero, Nat.zero_mul, List.getElem?_toArray, List.length_cons, List.length_nil, allOne_nil, allOne_cons, Bool.and_true, Bool.true_and, Nat.reduceLT, Nat.reduceLeDiff, Int.reduceLE, List.append_toArray, List.cons_append, List.nil_append, List.append_nil, hw'.cell]; exact ⟨trivial, trivial⟩) ?_
    simp -implicitDefEqProofs only [go_sem, ↓reduceIte, Nat.reduceEqDiff, Int.reduceLT, not_false_eq_true, List.map_toArray, List.map_cons, List.map_nil, Option.isSome_some, Nat.reduceLT, Int.reduceToNat, Int.reducePow, Nat.reduceAdd, Int.toNat_natCast, Bool.not_true, Bool.not_false, Nat.mul_one, decide_true, decide_false, Bool.false_eq_true, List.getElem?_cons_zero, List.getElem?_cons_succ, Int.reduceEq, Option.map_some, Option.map_none, at_add, add_zero', Nat.zero_add, Nat.add_zero, Nat.zero_mul, List.getElem?_toArray, List.length_cons, List.length_nil, allOne_nil, allOne_cons, Bool.and_true, Bool.true_and, Nat.reduceLT, Nat.reduceLeDiff, Int.reduceLE, List.append_toArray, List.cons_append, List.nil_append, List.append_nil, hd.cell]
    refine goE_intro hd ?_
    simp -implicitDefEqProofs only [go_sem, ↓reduceIte, Nat.reduceEqDiff, Int.reduceLT, not_false_eq_true, List.map_toArray, List.map_cons, List.map_nil, Option.isSome_some, Nat.reduceLT, Int.reduceToNat, Int.reducePow, Nat.reduceAdd, Int.toNat_natCast, Bool.not_true, Bool.not_false, Nat.mul_one, decide_true, decide_false, Bool.false_eq_true, List.getElem?_cons_zero, List.getElem?_cons_succ, Int.reduceEq, Option.map_some, Option.map_none, at_add, add_zero', Nat.zero_add, Nat.add_zero, Nat.zero_mul, List.getElem?_toArray, List.length_cons, List.length_nil, allOne_nil, allOne_cons, Bool.and_true, Bool.true_and, Nat.reduceLT, Nat.reduceLeDiff, Int.reduceLE, List.append_toArray, List.cons_append, List.nil_append, List.append_nil]
    refine bsl_val et40 (by decide) (by decide) (v := .agg #[.int .u32 (T.last + 1), .int .u64 owner, .string name, .slice none 0 0, .int .i64 0]) rfl ?_
    have kA : Keep w2 (w2.alloc (.cells (Value.agg #[.int .u32 (T.last + 1), .int .u64 owner, .string name, .slice none 0 0, .int .i64 0]).cells 47)) := Fx.alloc _ _ _
    have hbn := (Blk.new w2 47 (Value.agg #[.int .u32 (T.last + 1), .int .u64 owner, .string name, .slice none 0 0, .int .i64 0]).cells).cells
    have s3 := size_alloc w2 (.cells (Value.agg #[.int .u32 (T.last + 1), .int .u64 owner, .string name, .slice none 0 0, .int .i64 0]).cells 47)
    have hd3 := kA.blk hd (fun x => x)
    have ho3 := hod.keep kA
    generalize w2.alloc (.cells (Value.agg #[.int .u32 (T.last + 1), .int .u64 owner, .string name, .slice none 0 0, .int .i64 0]).cells 47) = w3 at *
    refine goE_intro hd3 ?_
    simp -implicitDefEqProofs only [go_sem, ↓reduceIte, Nat.reduceEqDiff, Int.reduceLT, not_false_eq_true, List.map_toArray, List.map_cons, List.map_nil, Option.isSome_some, Nat.reduceLT, Int.reduceToNat, Int.reducePow, Nat.reduceAdd, Int.toNat_natCast, Bool.not_true, Bool.not_false, Nat.mul_one, decide_true, decide_false, Bool.false_eq_true, List.getElem?_cons_zero, List.getElem?_cons_succ, Int.reduceEq, Option.map_some, Option.map_none, at_add, add_zero', Nat.zero_add, Nat.add_zero, Nat.zero_mul, List.getElem?_toArray, List.length_cons, List.length_nil, allOne_nil, allOne_cons, Bool.and_true, Bool.true_and, Nat.reduceLT, Nat.reduceLeDiff, Int.reduceLE, List.append_toArray, List.cons_append, List.nil_append, List.append_nil]
    refine append_ownR_at (x := (⟨T.last + 1, owner, name, [], 0⟩ : Up)) et40 rfl (by decide) ho3 (kRUp_mk (wfU32 (by simp only; omega) (by simp only; omega)) hwo hwn (nil_rep _ _) rfl) hbn (by omega) (by simp only [maxLen]; omega) (Nat.zero_le _) ?_
    intro v' w4 ho4 f4 hat
    have hd4 := f4.blk hd3 (fun e => hng e)
    have o4 : v'.oneCell' = true := by
      obtain ⟨_, _, e, _⟩ := ho4.cap
      rw [e]; rfl
    simp -implicitDefEqProofs only [go_sem, ↓reduceIte, Nat.reduceEqDiff, Int.reduceLT, not_false_eq_true, List.map_toArray, List.map_cons, List.map_nil, Option.isSome_some, Nat.reduceLT, Int.reduceToNat, Int.reducePow, Nat.reduceAdd, Int.toNat_natCast, Bool.not_true, Bool.not_false, Nat.mul_one, decide_true, decide_false, Bool.false_eq_true, List.getElem?_cons_zero, List.getElem?_cons_succ, Int.reduceEq, Option.map_some, Option.map_none, at_add, add_zero', Nat.zero_add, Nat.add_zero, Nat.zero_mul, List.getElem?_toArray, List.length_cons, List.length_nil, allOne_nil, allOne_cons, Bool.and_true, Bool.true_and, Nat.reduceLT, Nat.reduceLeDiff, Int.reduceLE, List.append_toArray, List.cons_append, List.nil_append, List.append_nil, hd4.cell, hd4.frozen, o4]
    have hd5 := hd4.set 0 v'
    have hng4 := ho4.ne hd4 (by decide)
    have f5 : Fx G w4 (w4.setCell (At g 0) v') := Fx.set _ _ _ hGg
    have f5o : Fx (only g) w4 (w4.setCell (At g 0) v') := Fx.set _ _ _ rfl
    have ho5 := ho4.fx f5o (fun k hk _ e => hk.2 e) (fun k hk e => by have e : k = g := e; exact hng4 (e ▸ hk))
    simp only [List.setIfInBounds_toArray, List.set_cons_succ, List.set_cons_zero] at hd5
    have s5 : (w4.setCell (At g 0) v').heap.size = w4.heap.size := by simp [World.setCell]
    generalize w4.setCell (At g 0) v' = w5 at *
    have hs4 := f4.size
    have hc5 := hd5.cell 1
    simp -implicitDefEqProofs only [go_sem, ↓reduceIte, Nat.reduceEqDiff, Int.reduceLT, not_false_eq_true, List.map_toArray, List.map_cons, List.map_nil, Option.isSome_some, Nat.reduceLT, Int.reduceToNat, Int.reducePow, Nat.reduceAdd, Int.toNat_natCast, Bool.not_true, Bool.not_false, Nat.mul_one, decide_true, decide_false, Bool.false_eq_true, List.getElem?_cons_zero, List.getElem?_cons_succ, Int.reduceEq, Option.map_some, Option.map_none, at_add, add_zero', Nat.zero_add, Nat.add_zero, Nat.zero_mul, List.getElem?_toArray, List.length_cons, List.length_nil, allOne_nil, allOne_cons, Bool.and_true, Bool.true_and, Nat.reduceLT, Nat.reduceLeDiff, Int.reduceLE, List.append_toArray, List.cons_append, List.nil_append, List.append_nil, hc5]
    have hfin : Fx G w w5 := ((f1d.keep kA).new f4 (fun k e _ => hGo k e)).tr f5
    refine ⟨trivial, (fun k => G k ∨ (w.heap.size ≤ k ∧ k < w5.heap.size)), ⟨v', hd5, ?_, .inl hGg, ?_, ?_⟩, hfin, fun k hk => hk.imp id (fun x => x.1)⟩
    · obtain ⟨css, a, b, c⟩ := ho5
      refine ⟨css, a, b, fun j x hx => ?_⟩
      obtain ⟨vs, p, q⟩ := c j x hx
      exact ⟨vs, p, kRUp.mono q fun k _ hk => ⟨⟨.inl hk.1.1, hk.1.2⟩, hk.2⟩⟩
    · intro k hk
      have := (ho5.lt hk).2
      by_cases hkw : k < w.heap.size
      · rcases hat with e | e
        · exact .inl (hGo k (e ▸ hk))
        · rw [e] at hk
          cases hk
          omega
      · exact .inr ⟨by omega, this⟩
    · rintro k (hk | hk)
      · have := hGl k hk; omega
      · exact hk.2
theorem erase_step {l : List Up} {i j : Nat} {x : Up} (hx : l[j]? = some x) : (l.take (j + 1)).eraseIdx i = if j = i then (l.take j).eraseIdx i else (l.take j).eraseIdx i ++ [x] := by
  have hlt := (List.getElem?_eq_some_iff.1 hx).1
  have hgx := (List.getElem?_eq_some_iff.1 hx).2
  have hl : (l.take j).length = j := by rw [List.length_take]; omega
  rw [List.take_succ_eq_append_getElem hlt, hgx]
  by_cases e : j = i
  · subst e
    rw [if_pos rfl, List.eraseIdx_append_of_length_le (by omega), hl, Nat.sub_self, List.eraseIdx_cons_zero, List.append_nil, List.eraseIdx_of_length_le (by omega)]
  · rw [if_neg e]
    by_cases h : i < j
    · rw [List.eraseIdx_append_of_lt_length (by omega)]
    · rw [List.eraseIdx_append_of_length_le (by omega), hl, List.eraseIdx_of_length_le (by simp; omega), List.eraseIdx_of_length_le (by omega)]
theorem own_at {α : Type} {K : Kind α} {e : TypeId} {U : Nat → Prop} {lo : Nat} {w : World} {v : Value} {l : List α} (h : OwnR K e U lo w v l) {i : Nat} {x : α} (hi : l[i]? = some x) : ∃ b c vs, v = .slice (some (At b 0)) l.length c ∧ l.length ≤ c ∧ c ≤ maxLen ∧ v.ownBlock = some b ∧ CellsAt w (At b (i * K.sz)) vs ∧ K.rep (fun k => U k ∧ k ≠ b) w x vs := by
  obtain ⟨A, c, hv, hlc, hcm, hA⟩ := h.cap
  rcases hA with rfl | ⟨b, rfl, hb⟩
  · simp at hi
  obtain ⟨css, h1, hl, h2⟩ := h
  obtain ⟨vs, hc1, hr⟩ := h2 i x hi
  refine ⟨b, c, vs, hv, hlc, hcm, hb, fun j u hu => ?_, K.mono hr fun k _ hk => ⟨hk.1, fun e => hk.2 (by rw [hb, e])⟩⟩
  have := World.ownsRow.cells h1 (g := b) hb (i * K.sz + j) u (flat_at (OwnR.lens hl h2) hc1 j u hu)
  rw [at_add] at this ⊢
  rw [Nat.zero_add] at this
  exact this
theorem RTab.grow {w w' : World} {g : Nat} {G : Nat → Prop} {v : Value} {last : Int} {l : List Up} {lo : Nat} (hb : Blk w' g 42 #[v, .int .u32 last]) (ho : OwnR kRUp 47 (fun k => (G k ∨ w.heap.size ≤ k) ∧ k ≠ g) lo w' v l) (hg : G g) (hv : ∀ k, v.ownBlock = some k → G k ∨ w.heap.size ≤ k) (hG : ∀ k, G k → k < w.heap.size) (hf : Fx G w w') :
    RStep w w' g ⟨l, last⟩ G := by
  have hs := hf.size
  refine ⟨fun k => G k ∨ (w.heap.size ≤ k ∧ k < w'.heap.size), ⟨v, hb, ?_, .inl hg, fun k hk => ?_, ?_⟩, hf, fun k hk => hk.imp id (fun x => x.1)⟩
  · obtain ⟨css, ⟨a1, a2⟩, b, c⟩ := ho
    refine ⟨css, ⟨a1, ?_⟩, b, fun j x hx => ?_⟩
    · rcases a2 with a2 | ⟨g', cap, cur, e1, _, e2⟩
      · exact .inl a2
      · exact .inr ⟨g', cap, cur, e1, Nat.zero_le _, e2⟩
    · obtain ⟨vs, p, q⟩ := c j x hx
      exact ⟨vs, p, kRUp.mono q fun k hk hu => ⟨⟨hu.1.1.imp id (fun e => ⟨e, hk⟩), hu.1.2⟩, hu.2⟩⟩
  · exact (hv k hk).imp id (fun e => ⟨e, (ho.lt hk).2⟩)
  · rintro k (hk | hk)
    · have := hG k hk; omega
    · exact hk.2
theorem own_mono {U U' : Nat → Prop} {lo : Nat} {w : World} {v : Value} {l : List Up} {e : TypeId} (h : OwnR kRUp e U lo w v l) (hU : ∀ k, U k → U' k) : OwnR kRUp e U' lo w v l := by
  obtain ⟨css, a, b, c⟩ := h
  refine ⟨css, a, b, fun j x hx => ?_⟩
  obtain ⟨vs, p, q⟩ := c j x hx
  exact ⟨vs, p, kRUp.mono q fun k _ hu => ⟨hU k hu.1, hu.2⟩⟩

theorem rcut_calls (h : RTab w g T G) (h4 : T.l.length ≤ 4) {i : Nat} (hi : i < T.l.length) : callK Try.prog 31 #[.pointer (some (At g 0)), .int .i64 i] w fun v w' => v = .tuple #[] ∧ RStep w w' g ⟨T.l.eraseIdx i, T.last⟩ G ∧ Fx (only g) w w' := by
  obtain ⟨v, hb, ho, hGg, hGo, hGl⟩ := id h
  obtain ⟨A0, c0, hv, hlen⟩ := rlen ho
  refine callK_of Try.func31 c31 r31 (by exact Nat.le_of_ble_eq_true rfl) ?_
  rw [m31]
  simp -implicitDefEqProofs only [go_sem, ↓reduceIte, Nat.reduceEqDiff, Int.reduceLT, not_false_eq_true, List.map_toArray, List.map_cons, List.map_nil, Option.isSome_some, Nat.reduceLT, Int.reduceToNat, Int.reducePow, Nat.reduceAdd, Int.toNat_natCast, Bool.not_true, Bool.not_false, Nat.mul_one, decide_true, decide_false, Bool.false_eq_true, List.getElem?_cons_zero, List.getElem?_cons_succ, Int.reduceEq, Option.map_some, Option.map_none, at_add, add_zero', Nat.zero_add, Nat.add_zero, Nat.zero_mul, List.getElem?_toArray, List.length_cons, List.length_nil, allOne_nil, allOne_cons, Bool.and_true, Bool.true_and, Nat.reduceLT, Nat.reduceLeDiff, Int.reduceLE, List.append_toArray, List.cons_append, List.nil_append, List.append_nil]
  refine loop_intro (fun q f w' => ∃ (j : Nat) (u : Value), q = T.l.length - j ∧ j ≤ T.l.length ∧ f 0 = .pointer (some (At g 0)) ∧ f 1 = .int .i64 i ∧ f 5 = .int .i64 j ∧ f 4 = u ∧ OwnR kRUp 47 (fun k => G k ∧ k ≠ g) w.heap.size w' u ((T.l.take j).eraseIdx i) ∧ Keep w w') T.l.length
    ⟨0, .slice none 0 0, rfl, by omega, by simp -implicitDefEqProofs only [go_sem, ↓reduceIte, Nat.reduceEqDiff, Int.reduceLT, not_false_eq_true, List.map_toArray, List.map_cons, List.map_nil, Option.isSome_some, Nat.reduceLT, Int.reduceToNat, Int.reducePow, Nat.reduceAdd, Int.toNat_natCast, Bool.not_true, Bool.not_false, Nat.mul_one, decide_true, decide_false, Bool.false_eq_true, List.getElem?_cons_zero, List.getElem?_cons_succ, Int.reduceEq, Option.map_some, Option.map_none, at_add, add_zero', Nat.zero_add, Nat.add_zero, Nat.zero_mul, List.getElem?_toArray, List.length_cons, List.length_nil, allOne_nil, allOne_cons, Bool.and_true, Bool.true_and, Nat.reduceLT, Nat.reduceLeDiff, Int.reduceLE, List.append_toArray, List.cons_append, List.nil_append, List.append_nil], by simp -implicitDefEqProofs only [go_sem, ↓reduceIte, Nat.reduceEqDiff, Int.reduceLT, not_false_eq_true, List.map_toArray, List.map_cons, List.map_nil, Option.isSome_some, Nat.reduceLT, Int.reduceToNat, Int.reducePow, Nat.reduceAdd, Int.toNat_natCast, Bool.not_true, Bool.not_false, Nat.mul_one, decide_true, decide_false, Bool.false_eq_true, List.getElem?_cons_zero, List.getElem?_cons_succ, Int.reduceEq, Option.map_some, Option.map_none, at_add, add_zero', Nat.zero_add, Nat.add_zero, Nat.zero_mul, List.getElem?_toArray, List.length_cons, List.length_nil, allOne_nil, allOne_cons, Bool.and_true, Bool.true_and, Nat.reduceLT, Nat.reduceLeDiff, Int.reduceLE, List.append_toArray, List.cons_append, List.nil_append, List.append_nil], by simp -implicitDefEqProofs only [go_sem, ↓reduceIte, Nat.reduceEqDiff, Int.reduceLT, not_false_eq_true, List.map_toArray, List.map_cons, List.map_nil, Option.isSome_some, Nat.reduceLT, Int.reduceToNat, Int.reducePow, Nat.reduceAdd, Int.toNat_natCast, Bool.not_true, Bool.not_false, Nat.mul_one, decide_true, decide_false, Bool.false_eq_true, List.getElem?_cons_zero, List.getElem?_cons_succ, Int.reduceEq, Option.map_some, Option.map_none, at_add, add_zero', Nat.zero_add, Nat.add_zero, Nat.zero_mul, List.getElem?_toArray, List.length_cons, List.length_nil, allOne_nil, allOne_cons, Bool.and_true, Bool.true_and, Nat.reduceLT, Nat.reduceLeDiff, Int.reduceLE, List.append_toArray, List.cons_append, List.nil_append, List.append_nil]; rfl, by simp -implicitDefEqProofs only [go_sem, ↓reduceIte, Nat.reduceEqDiff, Int.reduceLT, not_false_eq_true, List.map_toArray, List.map_cons, List.map_nil, Option.isSome_some, Nat.reduceLT, Int.reduceToNat, Int.reducePow, Nat.reduceAdd, Int.toNat_natCast, Bool.not_true, Bool.not_false, Nat.mul_one, decide_true, decide_false, Bool.false_eq_true, List.getElem?_cons_zero, List.getElem?_cons_succ, Int.reduceEq, Option.map_some, Option.map_none, at_add, add_zero', Nat.zero_add, Nat.add_zero, Nat.zero_mul, List.getElem?_toArray, List.length_cons, List.length_nil, allOne_nil, allOne_cons, Bool.and_true, Bool.true_and, Nat.reduceLT, Nat.reduceLeDiff, Int.reduceLE, List.append_toArray, List.cons_append, List.nil_append, List.append_nil], by rw [List.take_zero, List.eraseIdx_nil]; exact OwnR.nil _ _ _ _ _, Fx.refl _ _⟩ ?_
  rintro q f w1 ⟨j, u, rfl, hj, g0, g1, g5, g4, hu, kk⟩
  have s1 := kk.size
  have hb1 := kk.blk hb (fun x => x)
  have ho1 := ho.keep kk
  have hc0 := hb1.cell 0
  rw [hv] at hc0
  by_cases hlt : j < T.l.length
  · have i1 : (j : Int) < (T.l.length : Int) := by omega
    have i0 : (0 : Int) ≤ (j : Int) := by omega
    have en : IntKind.i64.wrap ((j : Int) + 1) = ((j + 1 : Nat) : Int) := i64_nat (by omega) (by omega)
    obtain ⟨x, hx⟩ : ∃ x, T.l[j]? = some x := ⟨_, List.getElem?_eq_getElem hlt⟩
    have hst := erase_step (i := i) hx
    by_cases hji : j = i
    · have z : ((j : Int) != (i : Int)) = false := by rw [hji]; simp
      rw [if_pos hji] at hst
      simp -implicitDefEqProofs only [go_sem, ↓reduceIte, Nat.reduceEqDiff, Int.reduceLT, not_false_eq_true, List.map_toArray, List.map_cons, List.map_nil, Option.isSome_some, Nat.reduceLT, Int.reduceToNat, Int.reducePow, Nat.reduceAdd, Int.toNat_natCast, Bool.not_true, Bool.not_false, Nat.mul_one, decide_true, decide_false, Bool.false_eq_true, List.getElem?_cons_zero, List.getElem?_cons_succ, Int.reduceEq, Option.map_some, Option.map_none, at_add, add_zero', Nat.zero_add, Nat.add_zero, Nat.zero_mul, List.getElem?_toArray, List.length_cons, List.length_nil, allOne_nil, allOne_cons, Bool.and_true, Bool.true_and, Nat.reduceLT, Nat.reduceLeDiff, Int.reduceLE, List.append_toArray, List.cons_append, List.nil_append, List.append_nil, g0, g1, g5, g4, hc0, i1, z, en]
      exact ⟨T.l.length - (j + 1), by omega, j + 1, u, rfl, by omega, by simp -implicitDefEqProofs only [go_sem, ↓reduceIte, Nat.reduceEqDiff, Int.reduceLT, not_false_eq_true, List.map_toArray, List.map_cons, List.map_nil, Option.isSome_some, Nat.reduceLT, Int.reduceToNat, Int.reducePow, Nat.reduceAdd, Int.toNat_natCast, Bool.not_true, Bool.not_false, Nat.mul_one, decide_true, decide_false, Bool.false_eq_true, List.getElem?_cons_zero, List.getElem?_cons_succ, Int.reduceEq, Option.map_some, Option.map_none, at_add, add_zero', Nat.zero_add, Nat.add_zero, Nat.zero_mul, List.getElem?_toArray, List.length_cons, List.length_nil, allOne_nil, allOne_cons, Bool.and_true, Bool.true_and, Nat.reduceLT, Nat.reduceLeDiff, Int.reduceLE, List.append_toArray, List.cons_append, List.nil_append, List.append_nil, g0], by simp -implicitDefEqProofs only [go_sem, ↓reduceIte, Nat.reduceEqDiff, Int.reduceLT, not_false_eq_true, List.map_toArray, List.map_cons, List.map_nil, Option.isSome_some, Nat.reduceLT, Int.reduceToNat, Int.reducePow, Nat.reduceAdd, Int.toNat_natCast, Bool.not_true, Bool.not_false, Nat.mul_one, decide_true, decide_false, Bool.false_eq_true, List.getElem?_cons_zero, List.getElem?_cons_succ, Int.reduceEq, Option.map_some, Option.map_none, at_add, add_zero', Nat.zero_add, Nat.add_zero, Nat.zero_mul, List.getElem?_toArray, List.length_cons, List.length_nil, allOne_nil, allOne_cons, Bool.and_true, Bool.true_and, Nat.reduceLT, Nat.reduceLeDiff, Int.reduceLE, List.append_toArray, List.cons_append, List.nil_append, List.append_nil, g1], by simp -implicitDefEqProofs only [go_sem, ↓reduceIte, Nat.reduceEqDiff, Int.reduceLT, not_false_eq_true, List.map_toArray, List.map_cons, List.map_nil, Option.isSome_some, Nat.reduceLT, Int.reduceToNat, Int.reducePow, Nat.reduceAdd, Int.toNat_natCast, Bool.not_true, Bool.not_false, Nat.mul_one, decide_true, decide_false, Bool.false_eq_true, List.getElem?_cons_zero, List.getElem?_cons_succ, Int.reduceEq, Option.map_some, Option.map_none, at_add, add_zero', Nat.zero_add, Nat.add_zero, Nat.zero_mul, List.getElem?_toArray, List.length_cons, List.length_nil, allOne_nil, allOne_cons, Bool.and_true, Bool.true_and, Nat.reduceLT, Nat.reduceLeDiff, Int.reduceLE, List.append_toArray, List.cons_append, List.nil_append, List.append_nil], by simp -implicitDefEqProofs only [go_sem, ↓reduceIte, Nat.reduceEqDiff, Int.reduceLT, not_false_eq_true, List.map_toArray, List.map_cons, List.map_nil, Option.isSome_some, Nat.reduceLT, Int.reduceToNat, Int.reducePow, Nat.reduceAdd, Int.toNat_natCast, Bool.not_true, Bool.not_false, Nat.mul_one, decide_true, decide_false, Bool.false_eq_true, List.getElem?_cons_zero, List.getElem?_cons_succ, Int.reduceEq, Option.map_some, Option.map_none, at_add, add_zero', Nat.zero_add, Nat.add_zero, Nat.zero_mul, List.getElem?_toArray, List.length_cons, List.length_nil, allOne_nil, allOne_cons, Bool.and_true, Bool.true_and, Nat.reduceLT, Nat.reduceLeDiff, Int.reduceLE, List.append_toArray, List.cons_append, List.nil_append, List.append_nil, g4], by rw [hst]; exact hu, kk⟩
    · have z : ((j : Int) != (i : Int)) = true := by rw [bne_iff_ne]; omega
      rw [if_neg hji] at hst
      obtain ⟨b, c, vs, hv2, hlc, hcm, hob, hca, hrep⟩ := own_at ho1 hx
      rw [hv2] at hv
      cases hv
      have L0 : ldV Try.prog w1 47 (.pointer (some (At b (j * 5)))) = some (.agg vs.toArray) := ldV_agg sh47 (kRUp.len hrep) hca
      simp -implicitDefEqProofs only [go_sem, ↓reduceIte, Nat.reduceEqDiff, Int.reduceLT, not_false_eq_true, List.map_toArray, List.map_cons, List.map_nil, Option.isSome_some, Nat.reduceLT, Int.reduceToNat, Int.reducePow, Nat.reduceAdd, Int.toNat_natCast, Bool.not_true, Bool.not_false, Nat.mul_one, decide_true, decide_false, Bool.false_eq_true, List.getElem?_cons_zero, List.getElem?_cons_succ, Int.reduceEq, Option.map_some, Option.map_none, at_add, add_zero', Nat.zero_add, Nat.add_zero, Nat.zero_mul, List.getElem?_toArray, List.length_cons, List.length_nil, allOne_nil, allOne_cons, Bool.and_true, Bool.true_and, Nat.reduceLT, Nat.reduceLeDiff, Int.reduceLE, List.append_toArray, List.cons_append, List.nil_append, List.append_nil, g0, g1, g5, g4, hc0, i0, i1, z, L0]
      refine bsl_val et40 (by decide) (by decide) (v := .agg vs.toArray) (kRUp.len hrep) ?_
      have kA : Keep w1 (w1.alloc (.cells (Value.agg vs.toArray).cells 47)) := Fx.alloc _ _ _
      have hbn := (Blk.new w1 47 (Value.agg vs.toArray).cells).cells
      have hu3 := hu.keep kA
      have hr3 := kRUp.keep hrep kA
      have s3 := kA.size
      generalize w1.alloc (.cells (Value.agg vs.toArray).cells 47) = w3 at *
      simp -implicitDefEqProofs only [go_sem, ↓reduceIte, Nat.reduceEqDiff, Int.reduceLT, not_false_eq_true, List.map_toArray, List.map_cons, List.map_nil, Option.isSome_some, Nat.reduceLT, Int.reduceToNat, Int.reducePow, Nat.reduceAdd, Int.toNat_natCast, Bool.not_true, Bool.not_false, Nat.mul_one, decide_true, decide_false, Bool.false_eq_true, List.getElem?_cons_zero, List.getElem?_cons_succ, Int.reduceEq, Option.map_some, Option.map_none, at_add, add_zero', Nat.zero_add, Nat.add_zero, Nat.zero_mul, List.getElem?_toArray, List.length_cons, List.length_nil, allOne_nil, allOne_cons, Bool.and_true, Bool.true_and, Nat.reduceLT, Nat.reduceLeDiff, Int.reduceLE, List.append_toArray, List.cons_append, List.nil_append, List.append_nil, g4]
      have hle : ((T.l.take j).eraseIdx i).length ≤ j := Nat.le_trans (List.length_eraseIdx_le _ _) (by rw [List.length_take]; omega)
      refine append_ownR et40 rfl (by decide) hu3 (kRUp.mono hr3 fun k _ hk => ⟨hk.1, fun e => by have := hu3.lt e; have := hGl k hk.1.1; omega⟩) hbn (by omega) (by simp only [maxLen]; omega) (by omega) ?_
      intro v' w4 ho4 f4
      have kk4 : Keep w w4 := (kk.tr kA).new f4 (fun k e hk => by have := hu3.lt e; omega)
      simp -implicitDefEqProofs only [go_sem, ↓reduceIte, Nat.reduceEqDiff, Int.reduceLT, not_false_eq_true, List.map_toArray, List.map_cons, List.map_nil, Option.isSome_some, Nat.reduceLT, Int.reduceToNat, Int.reducePow, Nat.reduceAdd, Int.toNat_natCast, Bool.not_true, Bool.not_false, Nat.mul_one, decide_true, decide_false, Bool.false_eq_true, List.getElem?_cons_zero, List.getElem?_cons_succ, Int.reduceEq, Option.map_some, Option.map_none, at_add, add_zero', Nat.zero_add, Nat.add_zero, Nat.zero_mul, List.getElem?_toArray, List.length_cons, List.length_nil, allOne_nil, allOne_cons, Bool.and_true, Bool.true_and, Nat.reduceLT, Nat.reduceLeDiff, Int.reduceLE, List.append_toArray, List.cons_append, List.nil_append, List.append_nil, g0, g1, g5, g4, en]
      exact ⟨T.l.length - (j + 1), by omega, j + 1, v', rfl, by omega, by simp -implicitDefEqProofs only [go_sem, ↓reduceIte, Nat.reduceEqDiff, Int.reduceLT, not_false_eq_true, List.map_toArray, List.map_cons, List.map_nil, Option.isSome_some, Nat.reduceLT, Int.reduceToNat, Int.reducePow, Nat.reduceAdd, Int.toNat_natCast, Bool.not_true, Bool.not_false, Nat.mul_one, decide_true, decide_false, Bool.false_eq_true, List.getElem?_cons_zero, List.getElem?_cons_succ, Int.reduceEq, Option.map_some, Option.map_none, at_add, add_zero', Nat.zero_add, Nat.add_zero, Nat.zero_mul, List.getElem?_toArray, List.length_cons, List.length_nil, allOne_nil, allOne_cons, Bool.and_true, Bool.true_and, Nat.reduceLT, Nat.reduceLeDiff, Int.reduceLE, List.append_toArray, List.cons_append, List.nil_append, List.append_nil, g0], by simp -implicitDefEqProofs only [go_sem, ↓reduceIte, Nat.reduceEqDiff, Int.reduceLT, not_false_eq_true, List.map_toArray, List.map_cons, List.map_nil, Option.isSome_some, Nat.reduceLT, Int.reduceToNat, Int.reducePow, Nat.reduceAdd, Int.toNat_natCast, Bool.not_true, Bool.not_false, Nat.mul_one, decide_true, decide_false, Bool.false_eq_true, List.getElem?_cons_zero, List.getElem?_cons_succ, Int.reduceEq, Option.map_some, Option.map_none, at_add, add_zero', Nat.zero_add, Nat.add_zero, Nat.zero_mul, List.getElem?_toArray, List.length_cons, List.length_nil, allOne_nil, allOne_cons, Bool.and_true, Bool.true_and, Nat.reduceLT, Nat.reduceLeDiff, Int.reduceLE, List.append_toArray, List.cons_append, List.nil_append, List.append_nil, g1], by simp -implicitDefEqProofs only [go_sem, ↓reduceIte, Nat.reduceEqDiff, Int.reduceLT, not_false_eq_true, List.map_toArray, List.map_cons, List.map_nil, Option.isSome_some, Nat.reduceLT, Int.reduceToNat, Int.reducePow, Nat.reduceAdd, Int.toNat_natCast, Bool.not_true, Bool.not_false, Nat.mul_one, decide_true, decide_false, Bool.false_eq_true, List.getElem?_cons_zero, List.getElem?_cons_succ, Int.reduceEq, Option.map_some, Option.map_none, at_add, add_zero', Nat.zero_add, Nat.add_zero, Nat.zero_mul, List.getElem?_toArray, List.length_cons, List.length_nil, allOne_nil, allOne_cons, Bool.and_true, Bool.true_and, Nat.reduceLT, Nat.reduceLeDiff, Int.reduceLE, List.append_toArray, List.cons_append, List.nil_append, List.append_nil], by simp -implicitDefEqProofs only [go_sem, ↓reduceIte, Nat.reduceEqDiff, Int.reduceLT, not_false_eq_true, List.map_toArray, List.map_cons, List.map_nil, Option.isSome_some, Nat.reduceLT, Int.reduceToNat, Int.reducePow, Nat.reduceAdd, Int.toNat_natCast, Bool.not_true, Bool.not_false, Nat.mul_one, decide_true, decide_false, Bool.false_eq_true, List.getElem?_cons_zero, List.getElem?_cons_succ, Int.reduceEq, Option.map_some, Option.map_none, at_add, add_zero', Nat.zero_add, Nat.add_zero, Nat.zero_mul, List.getElem?_toArray, List.length_cons, List.length_nil, allOne_nil, allOne_cons, Bool.and_true, Bool.true_and, Nat.reduceLT, Nat.reduceLeDiff, Int.reduceLE, List.append_toArray, List.cons_append, List.nil_append, List.append_nil], by rw [hst]; exact ho4, kk4⟩
  · have i1 : ¬ (j : Int) < (T.l.length : Int) := by omega
    rw [List.take_of_length_le (by omega)] at hu
    have o1 : u.oneCell' = true := by
      obtain ⟨_, _, e, _⟩ := hu.cap
      rw [e]; rfl
    simp -implicitDefEqProofs only [go_sem, ↓reduceIte, Nat.reduceEqDiff, Int.reduceLT, not_false_eq_true, List.map_toArray, List.map_cons, List.map_nil, Option.isSome_some, Nat.reduceLT, Int.reduceToNat, Int.reducePow, Nat.reduceAdd, Int.toNat_natCast, Bool.not_true, Bool.not_false, Nat.mul_one, decide_true, decide_false, Bool.false_eq_true, List.getElem?_cons_zero, List.getElem?_cons_succ, Int.reduceEq, Option.map_some, Option.map_none, at_add, add_zero', Nat.zero_add, Nat.add_zero, Nat.zero_mul, List.getElem?_toArray, List.length_cons, List.length_nil, allOne_nil, allOne_cons, Bool.and_true, Bool.true_and, Nat.reduceLT, Nat.reduceLeDiff, Int.reduceLE, List.append_toArray, List.cons_append, List.nil_append, List.append_nil, g0, g1, g5, g4, hc0, i1, hb1.frozen, o1]
    have hb2 := hb1.set 0 u
    have f2 : Fx G w1 (w1.setCell (At g 0) u) := Fx.set _ _ _ hGg
    have f2o : Fx (only g) w1 (w1.setCell (At g 0) u) := Fx.set _ _ _ rfl
    have hne := hu.ne hb1 (by decide)
    have hu2 := hu.fx f2o (fun k hk _ e => hk.2 e) (fun k hk e => by have e : k = g := e; exact hne (e ▸ hk))
    simp only [List.setIfInBounds_toArray, List.set_cons_zero] at hb2
    exact ⟨trivial, RTab.grow (w := w) hb2 (own_mono hu2 fun k hk => ⟨.inl hk.1, hk.2⟩) hGg (fun k hk => .inr (hu2.lt hk).1) hGl ((kk.fx G).tr f2), (kk.fx (only g)).tr f2o⟩
theorem RStep.trans {w1 w2 : World} {T2 : Tb} {G1 : Nat → Prop} (hk : Fx G w w1) (hs : ∀ k, G1 k → G k ∨ w.heap.size ≤ k) (h2 : RStep w1 w2 g T2 G1) : RStep w w2 g T2 G := by
  obtain ⟨G2, a, b, c⟩ := h2
  have hs1 := hk.size
  exact ⟨G2, a, hk.new b (fun k hk hlt => by rcases hs k hk with h | h; exact h; omega), fun k hk => by rcases c k hk with h | h; exact hs k h; exact .inr (by omega)⟩
theorem rabort_calls (h : RTab w g T G) (h4 : T.l.length ≤ 4) (owner n : Int) : callK Try.prog 22 #[.pointer (some (At g 0)), .int .u64 owner, .int .u32 n] w fun v w' => v = .int .i64 (tAbort T owner n).1 ∧ RStep w w' g (tAbort T owner n).2 G := by
  refine callK_of Try.func22 c22 r22 (by exact Nat.le_of_ble_eq_true rfl) ?_
  rw [m22]
  simp -implicitDefEqProofs only [go_sem, ↓reduceIte, Nat.reduceEqDiff, Int.reduceLT, not_false_eq_true, List.map_toArray, List.map_cons, List.map_nil, Option.isSome_some, Nat.reduceLT, Int.reduceToNat, Int.reducePow, Nat.reduceAdd, Int.toNat_natCast, Bool.not_true, Bool.not_false, Nat.mul_one, decide_true, decide_false, Bool.false_eq_true, List.getElem?_cons_zero, List.getElem?_cons_succ, Int.reduceEq, Option.map_some, Option.map_none, at_add, add_zero', Nat.zero_add, Nat.add_zero, Nat.zero_mul, List.getElem?_toArray, List.length_cons, List.length_nil, allOne_nil, allOne_cons, Bool.and_true, Bool.true_and, Nat.reduceLT, Nat.reduceLeDiff, Int.reduceLE, List.append_toArray, List.cons_append, List.nil_append, List.append_nil]
  refine (at_calls h owner n).mono ?_
  rintro v w1 ⟨rfl, rfl⟩
  unfold tAbort
  cases hf : fUp owner n T.l 0 with
  | none =>
    have z : ((-1 : Int) < 0) := by decide
    simp -implicitDefEqProofs only [go_sem, ↓reduceIte, Nat.reduceEqDiff, Int.reduceLT, not_false_eq_true, List.map_toArray, List.map_cons, List.map_nil, Option.isSome_some, Nat.reduceLT, Int.reduceToNat, Int.reducePow, Nat.reduceAdd, Int.toNat_natCast, Bool.not_true, Bool.not_false, Nat.mul_one, decide_true, decide_false, Bool.false_eq_true, List.getElem?_cons_zero, List.getElem?_cons_succ, Int.reduceEq, Option.map_some, Option.map_none, at_add, add_zero', Nat.zero_add, Nat.add_zero, Nat.zero_mul, List.getElem?_toArray, List.length_cons, List.length_nil, allOne_nil, allOne_cons, Bool.and_true, Bool.true_and, Nat.reduceLT, Nat.reduceLeDiff, Int.reduceLE, List.append_toArray, List.cons_append, List.nil_append, List.append_nil, Option.elim_none, z]
    exact ⟨trivial, G, h, Fx.refl _ _, fun k hk => .inl hk⟩
  | some p =>
    obtain ⟨i, u⟩ := p
    obtain ⟨_, hu, _⟩ := fUp_some hf
    rw [Nat.sub_zero] at hu
    have hlt := (List.getElem?_eq_some_iff.1 hu).1
    have z : ¬ ((i : Int) < 0) := by omega
    simp -implicitDefEqProofs only [go_sem, ↓reduceIte, Nat.reduceEqDiff, Int.reduceLT, not_false_eq_true, List.map_toArray, List.map_cons, List.map_nil, Option.isSome_some, Nat.reduceLT, Int.reduceToNat, Int.reducePow, Nat.reduceAdd, Int.toNat_natCast, Bool.not_true, Bool.not_false, Nat.mul_one, decide_true, decide_false, Bool.false_eq_true, List.getElem?_cons_zero, List.getElem?_cons_succ, Int.reduceEq, Option.map_some, Option.map_none, at_add, add_zero', Nat.zero_add, Nat.add_zero, Nat.zero_mul, List.getElem?_toArray, List.length_cons, List.length_nil, allOne_nil, allOne_cons, Bool.and_true, Bool.true_and, Nat.reduceLT, Nat.reduceLeDiff, Int.reduceLE, List.append_toArray, List.cons_append, List.nil_append, List.append_nil, Option.elim_some, z]
    refine (rcut_calls h h4 hlt).mono ?_
    rintro v w2 ⟨rfl, st, _⟩
    simp -implicitDefEqProofs only [go_sem, ↓reduceIte, Nat.reduceEqDiff, Int.reduceLT, not_false_eq_true, List.map_toArray, List.map_cons, List.map_nil, Option.isSome_some, Nat.reduceLT, Int.reduceToNat, Int.reducePow, Nat.reduceAdd, Int.toNat_natCast, Bool.not_true, Bool.not_false, Nat.mul_one, decide_true, decide_false, Bool.false_eq_true, List.getElem?_cons_zero, List.getElem?_cons_succ, Int.reduceEq, Option.map_some, Option.map_none, at_add, add_zero', Nat.zero_add, Nat.add_zero, Nat.zero_mul, List.getElem?_toArray, List.length_cons, List.length_nil, allOne_nil, allOne_cons, Bool.and_true, Bool.true_and, Nat.reduceLT, Nat.reduceLeDiff, Int.reduceLE, List.append_toArray, List.cons_append, List.nil_append, List.append_nil]
    exact ⟨trivial, st⟩
theorem rbytes_calls (h : RTab w g T G) (hok : TbOk T) : callK Try.prog 24 #[.pointer (some (At g 0))] w fun v w' => v = .int .i64 (tBytes T.l) ∧ w' = w := by
  obtain ⟨v, hb, ho, hGg, hGo, hGl⟩ := id h
  obtain ⟨A0, c0, hv, hlen⟩ := rlen ho
  have hle := hok.bytes
  refine callK_of Try.func24 c24 r24 (by exact Nat.le_of_ble_eq_true rfl) ?_
  rw [m24]
  have hc0 := hb.cell 0
  rw [hv] at hc0
  simp -implicitDefEqProofs only [go_sem, ↓reduceIte, Nat.reduceEqDiff, Int.reduceLT, not_false_eq_true, List.map_toArray, List.map_cons, List.map_nil, Option.isSome_some, Nat.reduceLT, Int.reduceToNat, Int.reducePow, Nat.reduceAdd, Int.toNat_natCast, Bool.not_true, Bool.not_false, Nat.mul_one, decide_true, decide_false, Bool.false_eq_true, List.getElem?_cons_zero, List.getElem?_cons_succ, Int.reduceEq, Option.map_some, Option.map_none, at_add, add_zero', Nat.zero_add, Nat.add_zero, Nat.zero_mul, List.getElem?_toArray, List.length_cons, List.length_nil, allOne_nil, allOne_cons, Bool.and_true, Bool.true_and, Nat.reduceLT, Nat.reduceLeDiff, Int.reduceLE, List.append_toArray, List.cons_append, List.nil_append, List.append_nil]
  refine loop_intro (fun q f w' => ∃ (i tot : Nat), q = T.l.length - i ∧ i ≤ T.l.length ∧ f 0 = .pointer (some (At g 0)) ∧ f 3 = .int .i64 tot ∧ f 4 = .int .i64 i ∧ tot + tBytes (T.l.drop i) = tBytes T.l ∧ w' = w) T.l.length
    ⟨0, 0, rfl, by omega, by simp -implicitDefEqProofs only [go_sem, ↓reduceIte, Nat.reduceEqDiff, Int.reduceLT, not_false_eq_true, List.map_toArray, List.map_cons, List.map_nil, Option.isSome_some, Nat.reduceLT, Int.reduceToNat, Int.reducePow, Nat.reduceAdd, Int.toNat_natCast, Bool.not_true, Bool.not_false, Nat.mul_one, decide_true, decide_false, Bool.false_eq_true, List.getElem?_cons_zero, List.getElem?_cons_succ, Int.reduceEq, Option.map_some, Option.map_none, at_add, add_zero', Nat.zero_add, Nat.add_zero, Nat.zero_mul, List.getElem?_toArray, List.length_cons, List.length_nil, allOne_nil, allOne_cons, Bool.and_true, Bool.true_and, Nat.reduceLT, Nat.reduceLeDiff, Int.reduceLE, List.append_toArray, List.cons_append, List.nil_append, List.append_nil], by simp -implicitDefEqProofs only [go_sem, ↓reduceIte, Nat.reduceEqDiff, Int.reduceLT, not_false_eq_true, List.map_toArray, List.map_cons, List.map_nil, Option.isSome_some, Nat.reduceLT, Int.reduceToNat, Int.reducePow, Nat.reduceAdd, Int.toNat_natCast, Bool.not_true, Bool.not_false, Nat.mul_one, decide_true, decide_false, Bool.false_eq_true, List.getElem?_cons_zero, List.getElem?_cons_succ, Int.reduceEq, Option.map_some, Option.map_none, at_add, add_zero', Nat.zero_add, Nat.add_zero, Nat.zero_mul, List.getElem?_toArray, List.length_cons, List.length_nil, allOne_nil, allOne_cons, Bool.and_true, Bool.true_and, Nat.reduceLT, Nat.reduceLeDiff, Int.reduceLE, List.append_toArray, List.cons_append, List.nil_append, List.append_nil]; rfl, by simp -implicitDefEqProofs only [go_sem, ↓reduceIte, Nat.reduceEqDiff, Int.reduceLT, not_false_eq_true, List.map_toArray, List.map_cons, List.map_nil, Option.isSome_some, Nat.reduceLT, Int.reduceToNat, Int.reducePow, Nat.reduceAdd, Int.toNat_natCast, Bool.not_true, Bool.not_false, Nat.mul_one, decide_true, decide_false, Bool.false_eq_true, List.getElem?_cons_zero, List.getElem?_cons_succ, Int.reduceEq, Option.map_some, Option.map_none, at_add, add_zero', Nat.zero_add, Nat.add_zero, Nat.zero_mul, List.getElem?_toArray, List.length_cons, List.length_nil, allOne_nil, allOne_cons, Bool.and_true, Bool.true_and, Nat.reduceLT, Nat.reduceLeDiff, Int.reduceLE, List.append_toArray, List.cons_append, List.nil_append, List.append_nil]; rfl, by simp, rfl⟩ ?_
  rintro q f w1 ⟨i, tot, rfl, hi, g0, g3, g4, htot, rfl⟩
  by_cases hlt : i < T.l.length
  · have i1 : (i : Int) < (T.l.length : Int) := by omega
    have i0 : (0 : Int) ≤ (i : Int) := by omega
    obtain ⟨u, hu⟩ : ∃ u, T.l[i]? = some u := ⟨_, List.getElem?_eq_getElem hlt⟩
    obtain ⟨b, n', c, B, d, hv2, rfl, _, _, hob, hca, _⟩ := up_at ho hu
    rw [hv2] at hv
    cases hv
    have k3 : w1.cell? (At b (i * 5 + 3)) = some (.slice B u.b.length d) := by have := hca 3 _ rfl; rwa [at_add] at this
    have hu' : T.l[i] = u := (List.getElem?_eq_some_iff.1 hu).2
    rw [List.drop_eq_getElem_cons hlt, hu'] at htot
    have e1 : tBytes (u :: T.l.drop (i + 1)) = u.b.length + tBytes (T.l.drop (i + 1)) := by simp [tBytes]
    rw [e1] at htot
    have en : IntKind.i64.wrap ((i : Int) + 1) = ((i + 1 : Nat) : Int) := i64_nat (by omega) (by omega)
    have ew : IntKind.i64.wrap ((tot : Int) + (u.b.length : Int)) = ((tot + u.b.length : Nat) : Int) := i64_nat (by omega) (by omega)
    simp -implicitDefEqProofs only [go_sem, ↓reduceIte, Nat.reduceEqDiff, Int.reduceLT, not_false_eq_true, List.map_toArray, List.map_cons, List.map_nil, Option.isSome_some, Nat.reduceLT, Int.reduceToNat, Int.reducePow, Nat.reduceAdd, Int.toNat_natCast, Bool.not_true, Bool.not_false, Nat.mul_one, decide_true, decide_false, Bool.false_eq_true, List.getElem?_cons_zero, List.getElem?_cons_succ, Int.reduceEq, Option.map_some, Option.map_none, at_add, add_zero', Nat.zero_add, Nat.add_zero, Nat.zero_mul, List.getElem?_toArray, List.length_cons, List.length_nil, allOne_nil, allOne_cons, Bool.and_true, Bool.true_and, Nat.reduceLT, Nat.reduceLeDiff, Int.reduceLE, List.append_toArray, List.cons_append, List.nil_append, List.append_nil, g0, g3, g4, hc0, i0, i1, k3, en, ew]
    exact ⟨T.l.length - (i + 1), by omega, i + 1, tot + u.b.length, rfl, by omega, by simp -implicitDefEqProofs only [go_sem, ↓reduceIte, Nat.reduceEqDiff, Int.reduceLT, not_false_eq_true, List.map_toArray, List.map_cons, List.map_nil, Option.isSome_some, Nat.reduceLT, Int.reduceToNat, Int.reducePow, Nat.reduceAdd, Int.toNat_natCast, Bool.not_true, Bool.not_false, Nat.mul_one, decide_true, decide_false, Bool.false_eq_true, List.getElem?_cons_zero, List.getElem?_cons_succ, Int.reduceEq, Option.map_some, Option.map_none, at_add, add_zero', Nat.zero_add, Nat.add_zero, Nat.zero_mul, List.getElem?_toArray, List.length_cons, List.length_nil, allOne_nil, allOne_cons, Bool.and_true, Bool.true_and, Nat.reduceLT, Nat.reduceLeDiff, Int.reduceLE, List.append_toArray, List.cons_append, List.nil_append, List.append_nil, g0], by simp -implicitDefEqProofs only [go_sem, ↓reduceIte, Nat.reduceEqDiff, Int.reduceLT, not_false_eq_true, List.map_toArray, List.map_cons, List.map_nil, Option.isSome_some, Nat.reduceLT, Int.reduceToNat, Int.reducePow, Nat.reduceAdd, Int.toNat_natCast, Bool.not_true, Bool.not_false, Nat.mul_one, decide_true, decide_false, Bool.false_eq_true, List.getElem?_cons_zero, List.getElem?_cons_succ, Int.reduceEq, Option.map_some, Option.map_none, at_add, add_zero', Nat.zero_add, Nat.add_zero, Nat.zero_mul, List.getElem?_toArray, List.length_cons, List.length_nil, allOne_nil, allOne_cons, Bool.and_true, Bool.true_and, Nat.reduceLT, Nat.reduceLeDiff, Int.reduceLE, List.append_toArray, List.cons_append, List.nil_append, List.append_nil], by simp -implicitDefEqProofs only [go_sem, ↓reduceIte, Nat.reduceEqDiff, Int.reduceLT, not_false_eq_true, List.map_toArray, List.map_cons, List.map_nil, Option.isSome_some, Nat.reduceLT, Int.reduceToNat, Int.reducePow, Nat.reduceAdd, Int.toNat_natCast, Bool.not_true, Bool.not_false, Nat.mul_one, decide_true, decide_false, Bool.false_eq_true, List.getElem?_cons_zero, List.getElem?_cons_succ, Int.reduceEq, Option.map_some, Option.map_none, at_add, add_zero', Nat.zero_add, Nat.add_zero, Nat.zero_mul, List.getElem?_toArray, List.length_cons, List.length_nil, allOne_nil, allOne_cons, Bool.and_true, Bool.true_and, Nat.reduceLT, Nat.reduceLeDiff, Int.reduceLE, List.append_toArray, List.cons_append, List.nil_append, List.append_nil], by omega, rfl⟩
  · have i1 : ¬ (i : Int) < (T.l.length : Int) := by omega
    simp -implicitDefEqProofs only [go_sem, ↓reduceIte, Nat.reduceEqDiff, Int.reduceLT, not_false_eq_true, List.map_toArray, List.map_cons, List.map_nil, Option.isSome_some, Nat.reduceLT, Int.reduceToNat, Int.reducePow, Nat.reduceAdd, Int.toNat_natCast, Bool.not_true, Bool.not_false, Nat.mul_one, decide_true, decide_false, Bool.false_eq_true, List.getElem?_cons_zero, List.getElem?_cons_succ, Int.reduceEq, Option.map_some, Option.map_none, at_add, add_zero', Nat.zero_add, Nat.add_zero, Nat.zero_mul, List.getElem?_toArray, List.length_cons, List.length_nil, allOne_nil, allOne_cons, Bool.and_true, Bool.true_and, Nat.reduceLT, Nat.reduceLeDiff, Int.reduceLE, List.append_toArray, List.cons_append, List.nil_append, List.append_nil, g0, g3, g4, hc0, i1]
    rw [List.drop_of_length_le (by omega)] at htot
    have e0 : tBytes [] = 0 := rfl
    rw [e0, Nat.add_zero] at htot
    rw [htot]
    exact ⟨rfl, trivial⟩
theorem leave_step {p : Up → Bool} {l : List Up} {i : Nat} {u : Up} (hu : l[i]? = some u) : l.take (i + 1) ++ (l.drop (i + 1)).filter p = l.take i ++ (u :: (l.drop (i + 1)).filter p) ∧ l.take i ++ (l.drop i).filter p = l.take i ++ (if p u = true then u :: (l.drop (i + 1)).filter p else (l.drop (i + 1)).filter p) := by
  have hlt := (List.getElem?_eq_some_iff.1 hu).1
  have hu' : l[i] = u := (List.getElem?_eq_some_iff.1 hu).2
  constructor
  · rw [List.take_succ_eq_append_getElem hlt, hu', List.append_assoc]
    rfl
  · rw [List.drop_eq_getElem_cons hlt, hu', List.filter_cons]
theorem rleave_calls (h : RTab w g T G) (hok : TbOk T) (owner : Int) : callK Try.prog 23 #[.pointer (some (At g 0)), .int .u64 owner] w fun v w' => v = .int .i64 (tLeave T owner).1 ∧ RStep w w' g (tLeave T owner).2 G := by
  obtain ⟨v, hb, ho, hGg, hGo, hGl⟩ := id h
  obtain ⟨A0, c0, hv, hlen⟩ := rlen ho
  have h4 := hok.len
  refine callK_of Try.func23 c23 r23 (by exact Nat.le_of_ble_eq_true rfl) ?_
  rw [m23]
  have hc0 := hb.cell 0
  rw [hv] at hc0
  have ew : IntKind.i64.wrap ((T.l.length : Int) - 1) = (T.l.length : Int) - 1 := by rw [i64_w, w64_id (by omega) (by omega)]
  simp -implicitDefEqProofs only [go_sem, ↓reduceIte, Nat.reduceEqDiff, Int.reduceLT, not_false_eq_true, List.map_toArray, List.map_cons, List.map_nil, Option.isSome_some, Nat.reduceLT, Int.reduceToNat, Int.reducePow, Nat.reduceAdd, Int.toNat_natCast, Bool.not_true, Bool.not_false, Nat.mul_one, decide_true, decide_false, Bool.false_eq_true, List.getElem?_cons_zero, List.getElem?_cons_succ, Int.reduceEq, Option.map_some, Option.map_none, at_add, add_zero', Nat.zero_add, Nat.add_zero, Nat.zero_mul, List.getElem?_toArray, List.length_cons, List.length_nil, allOne_nil, allOne_cons, Bool.and_true, Bool.true_and, Nat.reduceLT, Nat.reduceLeDiff, Int.reduceLE, List.append_toArray, List.cons_append, List.nil_append, List.append_nil, hc0, ew]
  refine loop_intro (fun q f w' => ∃ (i : Nat) (G1 : Nat → Prop), q = i ∧ i ≤ T.l.length ∧ f 0 = .pointer (some (At g 0)) ∧ f 1 = .int .u64 owner ∧ f 5 = .int .i64 T.l.length ∧ f 6 = .int .i64 ((i : Int) - 1) ∧ RTab w' g ⟨T.l.take i ++ (T.l.drop i).filter (fun u => !(u.owner == owner)), T.last⟩ G1 ∧ Fx G w w' ∧ (∀ k, G1 k → G k ∨ w.heap.size ≤ k)) T.l.length
    ⟨T.l.length, G, rfl, by omega, by simp -implicitDefEqProofs only [go_sem, ↓reduceIte, Nat.reduceEqDiff, Int.reduceLT, not_false_eq_true, List.map_toArray, List.map_cons, List.map_nil, Option.isSome_some, Nat.reduceLT, Int.reduceToNat, Int.reducePow, Nat.reduceAdd, Int.toNat_natCast, Bool.not_true, Bool.not_false, Nat.mul_one, decide_true, decide_false, Bool.false_eq_true, List.getElem?_cons_zero, List.getElem?_cons_succ, Int.reduceEq, Option.map_some, Option.map_none, at_add, add_zero', Nat.zero_add, Nat.add_zero, Nat.zero_mul, List.getElem?_toArray, List.length_cons, List.length_nil, allOne_nil, allOne_cons, Bool.and_true, Bool.true_and, Nat.reduceLT, Nat.reduceLeDiff, Int.reduceLE, List.append_toArray, List.cons_append, List.nil_append, List.append_nil], by simp -implicitDefEqProofs only [go_sem, ↓reduceIte, Nat.reduceEqDiff, Int.reduceLT, not_false_eq_true, List.map_toArray, List.map_cons, List.map_nil, Option.isSome_some, Nat.reduceLT, Int.reduceToNat, Int.reducePow, Nat.reduceAdd, Int.toNat_natCast, Bool.not_true, Bool.not_false, Nat.mul_one, decide_true, decide_false, Bool.false_eq_true, List.getElem?_cons_zero, List.getElem?_cons_succ, Int.reduceEq, Option.map_some, Option.map_none, at_add, add_zero', Nat.zero_add, Nat.add_zero, Nat.zero_mul, List.getElem?_toArray, List.length_cons, List.length_nil, allOne_nil, allOne_cons, Bool.and_true, Bool.true_and, Nat.reduceLT, Nat.reduceLeDiff, Int.reduceLE, List.append_toArray, List.cons_append, List.nil_append, List.append_nil], by simp -implicitDefEqProofs only [go_sem, ↓reduceIte, Nat.reduceEqDiff, Int.reduceLT, not_false_eq_true, List.map_toArray, List.map_cons, List.map_nil, Option.isSome_some, Nat.reduceLT, Int.reduceToNat, Int.reducePow, Nat.reduceAdd, Int.toNat_natCast, Bool.not_true, Bool.not_false, Nat.mul_one, decide_true, decide_false, Bool.false_eq_true, List.getElem?_cons_zero, List.getElem?_cons_succ, Int.reduceEq, Option.map_some, Option.map_none, at_add, add_zero', Nat.zero_add, Nat.add_zero, Nat.zero_mul, List.getElem?_toArray, List.length_cons, List.length_nil, allOne_nil, allOne_cons, Bool.and_true, Bool.true_and, Nat.reduceLT, Nat.reduceLeDiff, Int.reduceLE, List.append_toArray, List.cons_append, List.nil_append, List.append_nil], by simp -implicitDefEqProofs only [go_sem, ↓reduceIte, Nat.reduceEqDiff, Int.reduceLT, not_false_eq_true, List.map_toArray, List.map_cons, List.map_nil, Option.isSome_some, Nat.reduceLT, Int.reduceToNat, Int.reducePow, Nat.reduceAdd, Int.toNat_natCast, Bool.not_true, Bool.not_false, Nat.mul_one, decide_true, decide_false, Bool.false_eq_true, List.getElem?_cons_zero, List.getElem?_cons_succ, Int.reduceEq, Option.map_some, Option.map_none, at_add, add_zero', Nat.zero_add, Nat.add_zero, Nat.zero_mul, List.getElem?_toArray, List.length_cons, List.length_nil, allOne_nil, allOne_cons, Bool.and_true, Bool.true_and, Nat.reduceLT, Nat.reduceLeDiff, Int.reduceLE, List.append_toArray, List.cons_append, List.nil_append, List.append_nil], by rw [List.take_length, List.drop_length, List.filter_nil, List.append_nil]; exact h, Fx.refl _ _, fun k hk => .inl hk⟩ ?_
  rintro q f w1 ⟨i, G1, rfl, hi, g0, g1, g5, g6, hR, hf, hsub⟩
  obtain ⟨v1, hb1, ho1, hG1g, hG1o, hG1l⟩ := id hR
  obtain ⟨A1, c1, hv1, hlen1⟩ := rlen ho1
  have hc1 := hb1.cell 0
  rw [hv1] at hc1
  cases q with
  | succ i =>
    have z : (0 : Int) ≤ ((i + 1 : Nat) : Int) - 1 := by omega
    have ei : ((i + 1 : Nat) : Int) - 1 = (i : Int) := by omega
    rw [ei] at g6 z
    have hlt : i < T.l.length := by omega
    obtain ⟨u, hu⟩ : ∃ u, T.l[i]? = some u := ⟨_, List.getElem?_eq_getElem hlt⟩
    obtain ⟨st1, st2⟩ := leave_step (p := fun u => !(u.owner == owner)) hu
    have htl : (T.l.take i).length = i := by rw [List.length_take]; omega
    have hget : (T.l.take (i + 1) ++ (T.l.drop (i + 1)).filter (fun u => !(u.owner == owner)))[i]? = some u := by
      rw [st1, List.getElem?_append_right (by omega), htl, Nat.sub_self]; rfl
    obtain ⟨b, n', c, B, d, hv2, hn', _, _, hob, hca, _⟩ := up_at ho1 hget
    rw [hv2] at hv1
    injection hv1 with q1 q2 q3
    subst q1
    have k1 : w1.cell? (At b (i * 5 + 1)) = some (.int .u64 u.owner) := by have := hca 1 _ rfl; rwa [at_add] at this
    have ilt : (i : Int) < ((T.l.take (i + 1) ++ (T.l.drop (i + 1)).filter (fun u => !(u.owner == owner))).length : Int) := by
      have := (List.getElem?_eq_some_iff.1 hget).1; omega
    have en : IntKind.i64.wrap ((i : Int) - 1) = (i : Int) - 1 := by rw [i64_w, w64_id (by omega) (by omega)]
    cases hw : (u.owner == owner) with
    | true =>
      simp only [hw, Bool.not_true, Bool.false_eq_true, if_false] at st2
      simp -implicitDefEqProofs only [go_sem, ↓reduceIte, Nat.reduceEqDiff, Int.reduceLT, not_false_eq_true, List.map_toArray, List.map_cons, List.map_nil, Option.isSome_some, Nat.reduceLT, Int.reduceToNat, Int.reducePow, Nat.reduceAdd, Int.toNat_natCast, Bool.not_true, Bool.not_false, Nat.mul_one, decide_true, decide_false, Bool.false_eq_true, List.getElem?_cons_zero, List.getElem?_cons_succ, Int.reduceEq, Option.map_some, Option.map_none, at_add, add_zero', Nat.zero_add, Nat.add_zero, Nat.zero_mul, List.getElem?_toArray, List.length_cons, List.length_nil, allOne_nil, allOne_cons, Bool.and_true, Bool.true_and, Nat.reduceLT, Nat.reduceLeDiff, Int.reduceLE, List.append_toArray, List.cons_append, List.nil_append, List.append_nil, g0, g1, g5, g6, hc1, z, ilt, k1, hw]
      have hl4 : (T.l.take (i + 1) ++ (T.l.drop (i + 1)).filter (fun u => !(u.owner == owner))).length ≤ 4 := by
        have := List.length_filter_le (fun u : Up => !(u.owner == owner)) (T.l.drop (i + 1))
        rw [List.length_append, List.length_take]
        rw [List.length_drop] at this
        omega
      refine (rcut_calls hR hl4 (i := i) (List.getElem?_eq_some_iff.1 hget).1).mono ?_
      rintro v w2 ⟨rfl, st, _⟩
      have he : (T.l.take (i + 1) ++ (T.l.drop (i + 1)).filter (fun u => !(u.owner == owner))).eraseIdx i = T.l.take i ++ (T.l.drop i).filter (fun u => !(u.owner == owner)) := by
        rw [st1, st2, List.eraseIdx_append_of_length_le (by omega), htl, Nat.sub_self, List.eraseIdx_cons_zero]
      simp only [he] at st
      obtain ⟨G2, a, b', c'⟩ := RStep.trans hf hsub st
      simp -implicitDefEqProofs only [go_sem, ↓reduceIte, Nat.reduceEqDiff, Int.reduceLT, not_false_eq_true, List.map_toArray, List.map_cons, List.map_nil, Option.isSome_some, Nat.reduceLT, Int.reduceToNat, Int.reducePow, Nat.reduceAdd, Int.toNat_natCast, Bool.not_true, Bool.not_false, Nat.mul_one, decide_true, decide_false, Bool.false_eq_true, List.getElem?_cons_zero, List.getElem?_cons_succ, Int.reduceEq, Option.map_some, Option.map_none, at_add, add_zero', Nat.zero_add, Nat.add_zero, Nat.zero_mul, List.getElem?_toArray, List.length_cons, List.length_nil, allOne_nil, allOne_cons, Bool.and_true, Bool.true_and, Nat.reduceLT, Nat.reduceLeDiff, Int.reduceLE, List.append_toArray, List.cons_append, List.nil_append, List.append_nil, g0, g1, g5, g6, en]
      exact ⟨i, by omega, i, G2, rfl, by omega, by simp -implicitDefEqProofs only [go_sem, ↓reduceIte, Nat.reduceEqDiff, Int.reduceLT, not_false_eq_true, List.map_toArray, List.map_cons, List.map_nil, Option.isSome_some, Nat.reduceLT, Int.reduceToNat, Int.reducePow, Nat.reduceAdd, Int.toNat_natCast, Bool.not_true, Bool.not_false, Nat.mul_one, decide_true, decide_false, Bool.false_eq_true, List.getElem?_cons_zero, List.getElem?_cons_succ, Int.reduceEq, Option.map_some, Option.map_none, at_add, add_zero', Nat.zero_add, Nat.add_zero, Nat.zero_mul, List.getElem?_toArray, List.length_cons, List.length_nil, allOne_nil, allOne_cons, Bool.and_true, Bool.true_and, Nat.reduceLT, Nat.reduceLeDiff, Int.reduceLE, List.append_toArray, List.cons_append, List.nil_append, List.append_nil, g0], by simp -implicitDefEqProofs only [go_sem, ↓reduceIte, Nat.reduceEqDiff, Int.reduceLT, not_false_eq_true, List.map_toArray, List.map_cons, List.map_nil, Option.isSome_some, Nat.reduceLT, Int.reduceToNat, Int.reducePow, Nat.reduceAdd, Int.toNat_natCast, Bool.not_true, Bool.not_false, Nat.mul_one, decide_true, decide_false, Bool.false_eq_true, List.getElem?_cons_zero, List.getElem?_cons_succ, Int.reduceEq, Option.map_some, Option.map_none, at_add, add_zero', Nat.zero_add, Nat.add_zero, Nat.zero_mul, List.getElem?_toArray, List.length_cons, List.length_nil, allOne_nil, allOne_cons, Bool.and_true, Bool.true_and, Nat.reduceLT, Nat.reduceLeDiff, Int.reduceLE, List.append_toArray, List.cons_append, List.nil_append, List.append_nil, g1], by simp -implicitDefEqProofs only [go_sem, ↓reduceIte, Nat.reduceEqDiff, Int.reduceLT, not_false_eq_true, List.map_toArray, List.map_cons, List.map_nil, Option.isSome_some, Nat.reduceLT, Int.reduceToNat, Int.reducePow, Nat.reduceAdd, Int.toNat_natCast, Bool.not_true, Bool.not_false, Nat.mul_one, decide_true, decide_false, Bool.false_eq_true, List.getElem?_cons_zero, List.getElem?_cons_succ, Int.reduceEq, Option.map_some, Option.map_none, at_add, add_zero', Nat.zero_add, Nat.add_zero, Nat.zero_mul, List.getElem?_toArray, List.length_cons, List.length_nil, allOne_nil, allOne_cons, Bool.and_true, Bool.true_and, Nat.reduceLT, Nat.reduceLeDiff, Int.reduceLE, List.append_toArray, List.cons_append, List.nil_append, List.append_nil, g5], by simp -implicitDefEqProofs only [go_sem, ↓reduceIte, Nat.reduceEqDiff, Int.reduceLT, not_false_eq_true, List.map_toArray, List.map_cons, List.map_nil, Option.isSome_some, Nat.reduceLT, Int.reduceToNat, Int.reducePow, Nat.reduceAdd, Int.toNat_natCast, Bool.not_true, Bool.not_false, Nat.mul_one, decide_true, decide_false, Bool.false_eq_true, List.getElem?_cons_zero, List.getElem?_cons_succ, Int.reduceEq, Option.map_some, Option.map_none, at_add, add_zero', Nat.zero_add, Nat.add_zero, Nat.zero_mul, List.getElem?_toArray, List.length_cons, List.length_nil, allOne_nil, allOne_cons, Bool.and_true, Bool.true_and, Nat.reduceLT, Nat.reduceLeDiff, Int.reduceLE, List.append_toArray, List.cons_append, List.nil_append, List.append_nil], a, b', c'⟩
    | false =>
      simp only [hw, Bool.not_false, if_true] at st2
      simp -implicitDefEqProofs only [go_sem, ↓reduceIte, Nat.reduceEqDiff, Int.reduceLT, not_false_eq_true, List.map_toArray, List.map_cons, List.map_nil, Option.isSome_some, Nat.reduceLT, Int.reduceToNat, Int.reducePow, Nat.reduceAdd, Int.toNat_natCast, Bool.not_true, Bool.not_false, Nat.mul_one, decide_true, decide_false, Bool.false_eq_true, List.getElem?_cons_zero, List.getElem?_cons_succ, Int.reduceEq, Option.map_some, Option.map_none, at_add, add_zero', Nat.zero_add, Nat.add_zero, Nat.zero_mul, List.getElem?_toArray, List.length_cons, List.length_nil, allOne_nil, allOne_cons, Bool.and_true, Bool.true_and, Nat.reduceLT, Nat.reduceLeDiff, Int.reduceLE, List.append_toArray, List.cons_append, List.nil_append, List.append_nil, g0, g1, g5, g6, hc1, z, ilt, k1, hw, en]
      refine ⟨i, by omega, i, G1, rfl, by omega, by simp -implicitDefEqProofs only [go_sem, ↓reduceIte, Nat.reduceEqDiff, Int.reduceLT, not_false_eq_true, List.map_toArray, List.map_cons, List.map_nil, Option.isSome_some, Nat.reduceLT, Int.reduceToNat, Int.reducePow, Nat.reduceAdd, Int.toNat_natCast, Bool.not_true, Bool.not_false, Nat.mul_one, decide_true, decide_false, Bool.false_eq_true, List.getElem?_cons_zero, List.getElem?_cons_succ, Int.reduceEq, Option.map_some, Option.map_none, at_add, add_zero', Nat.zero_add, Nat.add_zero, Nat.zero_mul, List.getElem?_toArray, List.length_cons, List.length_nil, allOne_nil, allOne_cons, Bool.and_true, Bool.true_and, Nat.reduceLT, Nat.reduceLeDiff, Int.reduceLE, List.append_toArray, List.cons_append, List.nil_append, List.append_nil, g0], by simp -implicitDefEqProofs only [go_sem, ↓reduceIte, Nat.reduceEqDiff, Int.reduceLT, not_false_eq_true, List.map_toArray, List.map_cons, List.map_nil, Option.isSome_some, Nat.reduceLT, Int.reduceToNat, Int.reducePow, Nat.reduceAdd, Int.toNat_natCast, Bool.not_true, Bool.not_false, Nat.mul_one, decide_true, decide_false, Bool.false_eq_true, List.getElem?_cons_zero, List.getElem?_cons_succ, Int.reduceEq, Option.map_some, Option.map_none, at_add, add_zero', Nat.zero_add, Nat.add_zero, Nat.zero_mul, List.getElem?_toArray, List.length_cons, List.length_nil, allOne_nil, allOne_cons, Bool.and_true, Bool.true_and, Nat.reduceLT, Nat.reduceLeDiff, Int.reduceLE, List.append_toArray, List.cons_append, List.nil_append, List.append_nil, g1], by simp -implicitDefEqProofs only [go_sem, ↓reduceIte, Nat.reduceEqDiff, Int.reduceLT, not_false_eq_true, List.map_toArray, List.map_cons, List.map_nil, Option.isSome_some, Nat.reduceLT, Int.reduceToNat, Int.reducePow, Nat.reduceAdd, Int.toNat_natCast, Bool.not_true, Bool.not_false, Nat.mul_one, decide_true, decide_false, Bool.false_eq_true, List.getElem?_cons_zero, List.getElem?_cons_succ, Int.reduceEq, Option.map_some, Option.map_none, at_add, add_zero', Nat.zero_add, Nat.add_zero, Nat.zero_mul, List.getElem?_toArray, List.length_cons, List.length_nil, allOne_nil, allOne_cons, Bool.and_true, Bool.true_and, Nat.reduceLT, Nat.reduceLeDiff, Int.reduceLE, List.append_toArray, List.cons_append, List.nil_append, List.append_nil, g5], by simp -implicitDefEqProofs only [go_sem, ↓reduceIte, Nat.reduceEqDiff, Int.reduceLT, not_false_eq_true, List.map_toArray, List.map_cons, List.map_nil, Option.isSome_some, Nat.reduceLT, Int.reduceToNat, Int.reducePow, Nat.reduceAdd, Int.toNat_natCast, Bool.not_true, Bool.not_false, Nat.mul_one, decide_true, decide_false, Bool.false_eq_true, List.getElem?_cons_zero, List.getElem?_cons_succ, Int.reduceEq, Option.map_some, Option.map_none, at_add, add_zero', Nat.zero_add, Nat.add_zero, Nat.zero_mul, List.getElem?_toArray, List.length_cons, List.length_nil, allOne_nil, allOne_cons, Bool.and_true, Bool.true_and, Nat.reduceLT, Nat.reduceLeDiff, Int.reduceLE, List.append_toArray, List.cons_append, List.nil_append, List.append_nil], ?_, hf, hsub⟩
      rw [st2, ← st1]
      exact hR
  | zero =>
    have z : ¬ (0 : Int) ≤ ((0 : Nat) : Int) - 1 := by omega
    have el : T.l.take 0 ++ (T.l.drop 0).filter (fun u => !(u.owner == owner)) = T.l.filter (fun u => !(u.owner == owner)) := by simp
    rw [el] at hR hc1
    have hle := List.length_filter_le (fun u : Up => !(u.owner == owner)) T.l
    have ew : IntKind.i64.wrap ((T.l.length : Int) - ((T.l.filter fun u => !(u.owner == owner)).length : Int)) = (T.l.length : Int) - ((T.l.filter fun u => !(u.owner == owner)).length : Int) := i64_nat (by omega) (by omega)
    simp -implicitDefEqProofs only [go_sem, ↓reduceIte, Nat.reduceEqDiff, Int.reduceLT, not_false_eq_true, List.map_toArray, List.map_cons, List.map_nil, Option.isSome_some, Nat.reduceLT, Int.reduceToNat, Int.reducePow, Nat.reduceAdd, Int.toNat_natCast, Bool.not_true, Bool.not_false, Nat.mul_one, decide_true, decide_false, Bool.false_eq_true, List.getElem?_cons_zero, List.getElem?_cons_succ, Int.reduceEq, Option.map_some, Option.map_none, at_add, add_zero', Nat.zero_add, Nat.add_zero, Nat.zero_mul, List.getElem?_toArray, List.length_cons, List.length_nil, allOne_nil, allOne_cons, Bool.and_true, Bool.true_and, Nat.reduceLT, Nat.reduceLeDiff, Int.reduceLE, List.append_toArray, List.cons_append, List.nil_append, List.append_nil, g0, g1, g5, g6, hc1, z, ew]
    exact ⟨rfl, G1, hR, hf, hsub⟩
theorem OwnI.rep {e : TypeId} {lo : Nat} {w : World} {v : Value} {xs : List Int} {U : Nat → Prop} (h : OwnI e .u8 lo w v xs) (hb : Bs xs) (hU : ∀ k, lo ≤ k → k < w.heap.size → U k) : kBytes.rep U w xs [v] := by
  obtain ⟨A, c, hv, hl, hm, hr⟩ := h.slice'
  refine ⟨A, c, by rw [hv], hl, hm, elems_of hr (fun ad hA hne => ?_) (fun x hx => u8_wf (hb x hx).1 (hb x hx).2)⟩
  rcases h.2 with ⟨hv', hn⟩ | ⟨g', cap, cur, hv', hbb, hg', _⟩
  · exact absurd (List.eq_nil_of_length_eq_zero hn) hne
  · rw [hv'] at hv
    injection hv with q1 _ _
    rw [hA] at q1
    cases q1
    exact hU _ hbb (Array.getElem?_eq_some_iff.1 hg').1
theorem page_eq {page p : Int} (h0 : 0 ≤ page) (h1 : page ≤ 4294967295) (p0 : 0 ≤ p) (p1 : p < 4294967295) : (page = 0 ∨ IntKind.u32.wrap (page - 1) ≠ p) ↔ page ≠ p + 1 := by
  rw [IntKind.wrap_u32]
  omega
theorem rchunk_calls (h : RTab w g T G) (hok : TbOk T) (hpg : ∀ u ∈ T.l, 0 ≤ u.page ∧ u.page < 4294967295) (owner n page : Int) (q0 : 0 ≤ page) (q1 : page ≤ 4294967295) {U : Nat → Prop} {A : Option Addr} {c : Nat} {b : List Int} (hbl : b.length ≤ 9223372036854775807) (he : Elems (Kind.int .u8) U w A b) (hU : ∀ k, U k → ¬ G k) (hUl : ∀ k, U k → k < w.heap.size) :
    callK Try.prog 18 #[.pointer (some (At g 0)), .int .u64 owner, .int .u32 n, .int .u32 page, .slice A b.length c] w fun v w' => v = .int .i64 (tChunk T owner n page b).1 ∧ RStep w w' g (tChunk T owner n page b).2 G := by
  refine callK_of Try.func18 c18 r18 (by exact Nat.le_of_ble_eq_true rfl) ?_
  rw [m18]
  have hstay : RStep w w g T G := ⟨G, h, Fx.refl _ _, fun k hk => .inl hk⟩
  simp -implicitDefEqProofs only [go_sem, ↓reduceIte, Nat.reduceEqDiff, Int.reduceLT, not_false_eq_true, List.map_toArray, List.map_cons, List.map_nil, Option.isSome_some, Nat.reduceLT, Int.reduceToNat, Int.reducePow, Nat.reduceAdd, Int.toNat_natCast, Bool.not_true, Bool.not_false, Nat.mul_one, decide_true, decide_false, Bool.false_eq_true, List.getElem?_cons_zero, List.getElem?_cons_succ, Int.reduceEq, Option.map_some, Option.map_none, at_add, add_zero', Nat.zero_add, Nat.add_zero, Nat.zero_mul, List.getElem?_toArray, List.length_cons, List.length_nil, allOne_nil, allOne_cons, Bool.and_true, Bool.true_and, Nat.reduceLT, Nat.reduceLeDiff, Int.reduceLE, List.append_toArray, List.cons_append, List.nil_append, List.append_nil]
  refine (at_calls h owner n).mono ?_
  rintro v w1 ⟨rfl, rfl⟩
  unfold tChunk
  cases hf : fUp owner n T.l 0 with
  | none =>
    have z : ((-1 : Int) < 0) := by decide
    simp -implicitDefEqProofs only [go_sem, ↓reduceIte, Nat.reduceEqDiff, Int.reduceLT, not_false_eq_true, List.map_toArray, List.map_cons, List.map_nil, Option.isSome_some, Nat.reduceLT, Int.reduceToNat, Int.reducePow, Nat.reduceAdd, Int.toNat_natCast, Bool.not_true, Bool.not_false, Nat.mul_one, decide_true, decide_false, Bool.false_eq_true, List.getElem?_cons_zero, List.getElem?_cons_succ, Int.reduceEq, Option.map_some, Option.map_none, at_add, add_zero', Nat.zero_add, Nat.add_zero, Nat.zero_mul, List.getElem?_toArray, List.length_cons, List.length_nil, allOne_nil, allOne_cons, Bool.and_true, Bool.true_and, Nat.reduceLT, Nat.reduceLeDiff, Int.reduceLE, List.append_toArray, List.cons_append, List.nil_append, List.append_nil, Option.elim_none, z]
    exact ⟨trivial, hstay⟩
  | some p =>
    obtain ⟨i, u⟩ := p
    obtain ⟨_, hu, _⟩ := fUp_some hf
    rw [Nat.sub_zero] at hu
    have hum := List.mem_of_getElem? hu
    have hlt := (List.getElem?_eq_some_iff.1 hu).1
    have z : ¬ ((i : Int) < 0) := by omega
    have i0 : (0 : Int) ≤ (i : Int) := by omega
    have i1 : (i : Int) < (T.l.length : Int) := by omega
    obtain ⟨v, hb, ho, hGg, hGo, hGl⟩ := id h
    obtain ⟨bk, n', cc, B, d, hv, rfl, hlc, hcm, hob, hca, w1', w2', w3', w4', hbd, hdm, heb⟩ := up_at ho hu
    subst hv
    have hc0 := hb.cell 0
    obtain ⟨p0, p1⟩ := hpg u hum
    have hub := hok.bs u hum
    have k3 : w1.cell? (At bk (i * 5 + 3)) = some (.slice B u.b.length d) := by have := hca 3 _ rfl; rwa [at_add] at this
    have k4 : w1.cell? (At bk (i * 5 + 4)) = some (.int .i64 u.page) := by have := hca 4 _ rfl; rwa [at_add] at this
    have ew : IntKind.i64.wrap page = page := i64_nat q0 (by omega)
    have ep : IntKind.i64.wrap (u.page + 1) = u.page + 1 := i64_nat (by omega) (by omega)
    have epu : IntKind.u32.wrap (u.page + 1) = u.page + 1 := u32_id (by omega) (by omega)
    simp only
    by_cases hp : page ≠ u.page + 1
    · have z1 : (page != u.page + 1) = true := by rw [bne_iff_ne]; exact hp
      rw [if_pos ((page_eq q0 q1 p0 p1).2 hp)]
      simp -implicitDefEqProofs only [go_sem, ↓reduceIte, Nat.reduceEqDiff, Int.reduceLT, not_false_eq_true, List.map_toArray, List.map_cons, List.map_nil, Option.isSome_some, Nat.reduceLT, Int.reduceToNat, Int.reducePow, Nat.reduceAdd, Int.toNat_natCast, Bool.not_true, Bool.not_false, Nat.mul_one, decide_true, decide_false, Bool.false_eq_true, List.getElem?_cons_zero, List.getElem?_cons_succ, Int.reduceEq, Option.map_some, Option.map_none, at_add, add_zero', Nat.zero_add, Nat.add_zero, Nat.zero_mul, List.getElem?_toArray, List.length_cons, List.length_nil, allOne_nil, allOne_cons, Bool.and_true, Bool.true_and, Nat.reduceLT, Nat.reduceLeDiff, Int.reduceLE, List.append_toArray, List.cons_append, List.nil_append, List.append_nil, Option.elim_some, z, i0, i1, hc0, k4, ew, ep, z1]
      exact ⟨trivial, hstay⟩
    · have z1 : (page != u.page + 1) = false := by rw [bne_eq_false_iff_eq]; exact Decidable.byContradiction hp
      rw [if_neg (fun e => hp ((page_eq q0 q1 p0 p1).1 e))]
      obtain ⟨mn, hmn⟩ : ∃ mn, (if (5000 : Int) < (b.length : Int) then 5000 else (b.length : Int)) = mn := ⟨_, rfl⟩
      have hmn0 : 0 ≤ mn ∧ mn ≤ 5000 := by rw [← hmn]; split <;> omega
      have em : IntKind.i64.wrap (4096 - mn) = 4096 - mn := by rw [i64_w, w64_id (by omega) (by omega)]
      by_cases hl : 4096 < u.b.length + b.length
      · have z2 : 4096 - mn < (u.b.length : Int) := by
          rw [← hmn]; split <;> omega
        rw [if_pos hl]
        simp -implicitDefEqProofs only [go_sem, ↓reduceIte, Nat.reduceEqDiff, Int.reduceLT, not_false_eq_true, List.map_toArray, List.map_cons, List.map_nil, Option.isSome_some, Nat.reduceLT, Int.reduceToNat, Int.reducePow, Nat.reduceAdd, Int.toNat_natCast, Bool.not_true, Bool.not_false, Nat.mul_one, decide_true, decide_false, Bool.false_eq_true, List.getElem?_cons_zero, List.getElem?_cons_succ, Int.reduceEq, Option.map_some, Option.map_none, at_add, add_zero', Nat.zero_add, Nat.add_zero, Nat.zero_mul, List.getElem?_toArray, List.length_cons, List.length_nil, allOne_nil, allOne_cons, Bool.and_true, Bool.true_and, Nat.reduceLT, Nat.reduceLeDiff, Int.reduceLE, List.append_toArray, List.cons_append, List.nil_append, List.append_nil, Option.elim_some, z, i0, i1, hc0, k3, k4, ew, ep, z1, hmn, em, z2]
        exact ⟨trivial, hstay⟩
      · have z2 : ¬ 4096 - mn < (u.b.length : Int) := by
          rw [← hmn]; split <;> omega
        rw [if_neg hl]
        simp -implicitDefEqProofs only [go_sem, ↓reduceIte, Nat.reduceEqDiff, Int.reduceLT, not_false_eq_true, List.map_toArray, List.map_cons, List.map_nil, Option.isSome_some, Nat.reduceLT, Int.reduceToNat, Int.reducePow, Nat.reduceAdd, Int.toNat_natCast, Bool.not_true, Bool.not_false, Nat.mul_one, decide_true, decide_false, Bool.false_eq_true, List.getElem?_cons_zero, List.getElem?_cons_succ, Int.reduceEq, Option.map_some, Option.map_none, at_add, add_zero', Nat.zero_add, Nat.add_zero, Nat.zero_mul, List.getElem?_toArray, List.length_cons, List.length_nil, allOne_nil, allOne_cons, Bool.and_true, Bool.true_and, Nat.reduceLT, Nat.reduceLeDiff, Int.reduceLE, List.append_toArray, List.cons_append, List.nil_append, List.append_nil, Option.elim_some, z, i0, i1, hc0, k3, k4, ew, ep, z1, hmn, em, z2]
        refine append_own (b := w1.heap.size) ie8 (by decide) (OwnI.nil _ _ _ _) heb.rd (by simp; omega) (Nat.le_refl _) ?_
        intro v1 wA oA fA _
        have kA : Keep w1 wA := fA.weaken (fun k _ e => by cases e)
        have sA := kA.size
        rw [List.nil_append] at oA
        simp -implicitDefEqProofs only [go_sem, ↓reduceIte, Nat.reduceEqDiff, Int.reduceLT, not_false_eq_true, List.map_toArray, List.map_cons, List.map_nil, Option.isSome_some, Nat.reduceLT, Int.reduceToNat, Int.reducePow, Nat.reduceAdd, Int.toNat_natCast, Bool.not_true, Bool.not_false, Nat.mul_one, decide_true, decide_false, Bool.false_eq_true, List.getElem?_cons_zero, List.getElem?_cons_succ, Int.reduceEq, Option.map_some, Option.map_none, at_add, add_zero', Nat.zero_add, Nat.add_zero, Nat.zero_mul, List.getElem?_toArray, List.length_cons, List.length_nil, allOne_nil, allOne_cons, Bool.and_true, Bool.true_and, Nat.reduceLT, Nat.reduceLeDiff, Int.reduceLE, List.append_toArray, List.cons_append, List.nil_append, List.append_nil]
        refine append_own ie8 (by decide) oA (he.keep kA).rd (by omega) sA ?_
        intro v2 wB oB fB hat
        have kB : Keep w1 wB := kA.new fB (fun k e hk => by have := (oA.lt e).1; omega)
        have sB := kB.size
        have hbB := kB.blk hb (fun x => x)
        have hcB := hbB.cell 0
        have hoB : OwnR kRUp 47 (fun k => (G k ∨ w1.heap.size ≤ k) ∧ k ≠ g) 0 wB (.slice (some (At bk 0)) T.l.length cc) T.l := own_mono (ho.keep kB) (fun k hk => ⟨.inl hk.1, hk.2⟩)
        have hGbk := hGo bk hob
        have hbkl := hGl bk hGbk
        have hgl := hGl g hGg
        have hne := hoB.ne hbB (by decide)
        have hbg : bk ≠ g := fun e => hne (by rw [← e]; exact hob)
        have o2 : v2.oneCell' = true := by
          obtain ⟨_, _, e, _⟩ := oB.slice
          rw [e]; rfl
        have hbs2 : Bs (u.b ++ b) := hub.1.append (he.keep kA).bs
        have hrep2 : ∀ (wx : World), OwnI 5 .u8 w1.heap.size wx v2 (u.b ++ b) → kBytes.rep (fun k => ((G k ∨ w1.heap.size ≤ k) ∧ k ≠ g) ∧ k ≠ bk) wx (u.b ++ b) [v2] := fun wx ox => OwnI.rep ox hbs2 fun k hk _ => ⟨⟨.inr hk, by omega⟩, by omega⟩
        obtain ⟨fz1, cs1, ho1⟩ := OwnR.set (y := (⟨u.n, u.owner, u.name, u.b ++ b, u.page⟩ : Up)) (o := 3) (u := v2) hoB hu (by decide) o2 (fun cs hcs => by
          obtain ⟨_, _, rfl, a1, a2, a3, a4, _⟩ := kRUp_cases hcs
          exact kRUp_mk a1 a2 a3 (hrep2 wB oB) a4)
        have e5 : i * kRUp.sz + 3 = i * 5 + 3 := rfl
        rw [e5] at fz1 cs1 ho1
        simp -implicitDefEqProofs only [go_sem, ↓reduceIte, Nat.reduceEqDiff, Int.reduceLT, not_false_eq_true, List.map_toArray, List.map_cons, List.map_nil, Option.isSome_some, Nat.reduceLT, Int.reduceToNat, Int.reducePow, Nat.reduceAdd, Int.toNat_natCast, Bool.not_true, Bool.not_false, Nat.mul_one, decide_true, decide_false, Bool.false_eq_true, List.getElem?_cons_zero, List.getElem?_cons_succ, Int.reduceEq, Option.map_some, Option.map_none, at_add, add_zero', Nat.zero_add, Nat.add_zero, Nat.zero_mul, List.getElem?_toArray, List.length_cons, List.length_nil, allOne_nil, allOne_cons, Bool.and_true, Bool.true_and, Nat.reduceLT, Nat.reduceLeDiff, Int.reduceLE, List.append_toArray, List.cons_append, List.nil_append, List.append_nil, hcB, i0, i1, fz1, cs1, o2]
        have fC : Fx (only bk) wB (wB.setCell (At bk (i * 5 + 3)) v2) := Fx.set _ _ _ rfl
        have sC : (wB.setCell (At bk (i * 5 + 3)) v2).heap.size = wB.heap.size := by simp [World.setCell]
        have hbC := fC.blk hbB (fun e => hbg e.symm)
        have oC := oB.fx fC (fun k hk e => by have := (oB.lt hk).1; have : k = bk := e; omega)
        have hu1 : (T.l.set i ⟨u.n, u.owner, u.name, u.b ++ b, u.page⟩)[i]? = some ⟨u.n, u.owner, u.name, u.b ++ b, u.page⟩ := List.getElem?_set_self hlt
        have hl1 : (T.l.set i ⟨u.n, u.owner, u.name, u.b ++ b, u.page⟩).length = T.l.length := List.length_set ..
        generalize wB.setCell (At bk (i * 5 + 3)) v2 = wC at *
        have hbD : Blk wC.drew g _ _ := hbC
        have hoD : OwnR kRUp 47 (fun k => (G k ∨ w1.heap.size ≤ k) ∧ k ≠ g) 0 wC.drew (.slice (some (At bk 0)) T.l.length cc) (T.l.set i ⟨u.n, u.owner, u.name, u.b ++ b, u.page⟩) := ho1.keep (Fx.drew _ _)
        have oD : OwnI 5 .u8 w1.heap.size wC.drew v2 (u.b ++ b) := oC.fx (Fx.drew (fun _ => False) _) (fun _ _ x => x)
        have fD : Fx G w1 wC.drew := ((kB.fx G).new fC (fun k e _ => by have e : k = bk := e; exact e ▸ hGbk)).keep (Fx.drew _ _)
        have sD : wC.drew.heap.size = wC.heap.size := rfl
        generalize wC.drew = wD at *
        obtain ⟨bk2, n2, cc2, B2, d2, hv2, hn2, _, _, hob2, hca2, _⟩ := up_at hoD hu1
        injection hv2 with hv2 _ _
        injection hv2 with hv2
        injection hv2 with hv2 _ _
        subst hv2
        have k4' : wD.cell? (At bk (i * 5 + 4)) = some (.int .i64 u.page) := by have := hca2 4 _ rfl; rwa [at_add] at this
        have hS : Blk wD g 42 #[.slice (some (At bk 0)) T.l.length cc, .int .u32 T.last] := hbD
        refine seg_intro (fun w' => Blk w' g 42 #[.slice (some (At bk 0)) T.l.length cc, .int .u32 T.last]) hS ?_
        simp -implicitDefEqProofs only [go_sem, ↓reduceIte, Nat.reduceEqDiff, Int.reduceLT, not_false_eq_true, List.map_toArray, List.map_cons, List.map_nil, Option.isSome_some, Nat.reduceLT, Int.reduceToNat, Int.reducePow, Nat.reduceAdd, Int.toNat_natCast, Bool.not_true, Bool.not_false, Nat.mul_one, decide_true, decide_false, Bool.false_eq_true, List.getElem?_cons_zero, List.getElem?_cons_succ, Int.reduceEq, Option.map_some, Option.map_none, at_add, add_zero', Nat.zero_add, Nat.add_zero, Nat.zero_mul, List.getElem?_toArray, List.length_cons, List.length_nil, allOne_nil, allOne_cons, Bool.and_true, Bool.true_and, Nat.reduceLT, Nat.reduceLeDiff, Int.reduceLE, List.append_toArray, List.cons_append, List.nil_append, List.append_nil]
        refine hld_intro (.slice (some (At bk 0)) T.l.length cc) hS (fun w' hw' => by simp -implicitDefEqProofs only [go_sem, ↓reduceIte, Nat.reduceEqDiff, Int.reduceLT, not_false_eq_true, List.map_toArray, List.map_cons, List.map_nil, Option.isSome_some, Nat.reduceLT, Int.reduceToNat, Int.reducePow, Nat.reduceAdd, Int.toNat_natCast, Bool.not_true, Bool.not_false, Nat.mul_one, decide_true, decide_false, Bool.false_eq_true, List.getElem?_cons_zero, List.getElem?_cons_succ, Int.reduceEq, Option.map_some, Option.map_none, at_add, add_zero', Nat.zero_add, Nat.add_zero, Nat.zero_mul, List.getElem?_toArray, List.length_cons, List.length_nil, allOne_nil, allOne_cons, Bool.and_true, Bool.true_and, Nat.reduceLT, Nat.reduceLeDiff, Int.reduceLE, List.append_toArray, List.cons_append, List.nil_append, List.append_nil, hw'.cell]; exact ⟨trivial, trivial⟩) ?_
        simp -implicitDefEqProofs only [go_sem, ↓reduceIte, Nat.reduceEqDiff, Int.reduceLT, not_false_eq_true, List.map_toArray, List.map_cons, List.map_nil, Option.isSome_some, Nat.reduceLT, Int.reduceToNat, Int.reducePow, Nat.reduceAdd, Int.toNat_natCast, Bool.not_true, Bool.not_false, Nat.mul_one, decide_true, decide_false, Bool.false_eq_true, List.getElem?_cons_zero, List.getElem?_cons_succ, Int.reduceEq, Option.map_some, Option.map_none, at_add, add_zero', Nat.zero_add, Nat.add_zero, Nat.zero_mul, List.getElem?_toArray, List.length_cons, List.length_nil, allOne_nil, allOne_cons, Bool.and_true, Bool.true_and, Nat.reduceLT, Nat.reduceLeDiff, Int.reduceLE, List.append_toArray, List.cons_append, List.nil_append, List.append_nil, hS.cell]
        refine goE_intro hS ?_
        simp -implicitDefEqProofs only [go_sem, ↓reduceIte, Nat.reduceEqDiff, Int.reduceLT, not_false_eq_true, List.map_toArray, List.map_cons, List.map_nil, Option.isSome_some, Nat.reduceLT, Int.reduceToNat, Int.reducePow, Nat.reduceAdd, Int.toNat_natCast, Bool.not_true, Bool.not_false, Nat.mul_one, decide_true, decide_false, Bool.false_eq_true, List.getElem?_cons_zero, List.getElem?_cons_succ, Int.reduceEq, Option.map_some, Option.map_none, at_add, add_zero', Nat.zero_add, Nat.add_zero, Nat.zero_mul, List.getElem?_toArray, List.length_cons, List.length_nil, allOne_nil, allOne_cons, Bool.and_true, Bool.true_and, Nat.reduceLT, Nat.reduceLeDiff, Int.reduceLE, List.append_toArray, List.cons_append, List.nil_append, List.append_nil, i0, i1, k4']
        refine goE_intro hS ?_
        obtain ⟨fz2, cs2, ho2⟩ := OwnR.set (y := (⟨u.n, u.owner, u.name, u.b ++ b, u.page + 1⟩ : Up)) (o := 4) (u := .int .i64 (u.page + 1)) hoD hu1 (by decide) rfl (fun cs hcs => by
          obtain ⟨B', d', rfl, a1, a2, a3, a4, a5, a6, a7⟩ := kRUp_cases hcs
          exact kRUp_mk (v := .slice B' (u.b ++ b).length d') a1 a2 a3 ⟨B', d', rfl, a5, a6, a7⟩ (wfI64 (by simp only; omega) (by simp only; omega)))
        have e6 : i * kRUp.sz + 4 = i * 5 + 4 := rfl
        rw [e6] at fz2 cs2 ho2
        simp -implicitDefEqProofs only [go_sem, ↓reduceIte, Nat.reduceEqDiff, Int.reduceLT, not_false_eq_true, List.map_toArray, List.map_cons, List.map_nil, Option.isSome_some, Nat.reduceLT, Int.reduceToNat, Int.reducePow, Nat.reduceAdd, Int.toNat_natCast, Bool.not_true, Bool.not_false, Nat.mul_one, decide_true, decide_false, Bool.false_eq_true, List.getElem?_cons_zero, List.getElem?_cons_succ, Int.reduceEq, Option.map_some, Option.map_none, at_add, add_zero', Nat.zero_add, Nat.add_zero, Nat.zero_mul, List.getElem?_toArray, List.length_cons, List.length_nil, allOne_nil, allOne_cons, Bool.and_true, Bool.true_and, Nat.reduceLT, Nat.reduceLeDiff, Int.reduceLE, List.append_toArray, List.cons_append, List.nil_append, List.append_nil, ep, i0, i1, fz2, cs2]
        have fE : Fx (only bk) wD (wD.setCell (At bk (i * 5 + 4)) (.int .i64 (u.page + 1))) := Fx.set _ _ _ rfl
        have hbE := fE.blk hS (fun e => hbg e.symm)
        rw [List.set_set] at ho2
        rw [epu]
        refine ⟨trivial, RTab.grow (w := w1) hbE ho2 hGg (fun k hk => by
          have : some bk = some k := hk
          cases this
          exact .inl hGbk) hGl (fD.new fE (fun k e _ => by have e : k = bk := e; exact e ▸ hGbk))⟩
theorem rcommit_calls (h : RTab w g T G) (hok : TbOk T) (owner n : Int) : callK Try.prog 20 #[.pointer (some (At g 0)), .int .u64 owner, .int .u32 n] w fun v w' => ∃ v1, v = .tuple #[.string (tCommit T owner n).1, v1, .int .i64 (tCommit T owner n).2.2.1] ∧ kChanges.rep (fun k => w.heap.size ≤ k) w' (tCommit T owner n).2.1 [v1] ∧ RStep w w' g (tCommit T owner n).2.2.2 G := by
  refine callK_of Try.func20 c20 r20 (by exact Nat.le_of_ble_eq_true rfl) ?_
  rw [m20]
  simp -implicitDefEqProofs only [go_sem, ↓reduceIte, Nat.reduceEqDiff, Int.reduceLT, not_false_eq_true, List.map_toArray, List.map_cons, List.map_nil, Option.isSome_some, Nat.reduceLT, Int.reduceToNat, Int.reducePow, Nat.reduceAdd, Int.toNat_natCast, Bool.not_true, Bool.not_false, Nat.mul_one, decide_true, decide_false, Bool.false_eq_true, List.getElem?_cons_zero, List.getElem?_cons_succ, Int.reduceEq, Option.map_some, Option.map_none, at_add, add_zero', Nat.zero_add, Nat.add_zero, Nat.zero_mul, List.getElem?_toArray, List.length_cons, List.length_nil, allOne_nil, allOne_cons, Bool.and_true, Bool.true_and, Nat.reduceLT, Nat.reduceLeDiff, Int.reduceLE, List.append_toArray, List.cons_append, List.nil_append, List.append_nil]
  refine (at_calls h owner n).mono ?_
  rintro v w1 ⟨rfl, rfl⟩
  unfold tCommit
  cases hf : fUp owner n T.l 0 with
  | none =>
    have z : ((-1 : Int) < 0) := by decide
    simp -implicitDefEqProofs only [go_sem, ↓reduceIte, Nat.reduceEqDiff, Int.reduceLT, not_false_eq_true, List.map_toArray, List.map_cons, List.map_nil, Option.isSome_some, Nat.reduceLT, Int.reduceToNat, Int.reducePow, Nat.reduceAdd, Int.toNat_natCast, Bool.not_true, Bool.not_false, Nat.mul_one, decide_true, decide_false, Bool.false_eq_true, List.getElem?_cons_zero, List.getElem?_cons_succ, Int.reduceEq, Option.map_some, Option.map_none, at_add, add_zero', Nat.zero_add, Nat.add_zero, Nat.zero_mul, List.getElem?_toArray, List.length_cons, List.length_nil, allOne_nil, allOne_cons, Bool.and_true, Bool.true_and, Nat.reduceLT, Nat.reduceLeDiff, Int.reduceLE, List.append_toArray, List.cons_append, List.nil_append, List.append_nil, Option.elim_none, z]
    exact ⟨_, rfl, nil_rep _ _, G, h, Fx.refl _ _, fun k hk => .inl hk⟩
  | some p =>
    obtain ⟨i, u⟩ := p
    obtain ⟨_, hu, _⟩ := fUp_some hf
    rw [Nat.sub_zero] at hu
    have hlt := (List.getElem?_eq_some_iff.1 hu).1
    have z : ¬ ((i : Int) < 0) := by omega
    have i0 : (0 : Int) ≤ (i : Int) := by omega
    have i1 : (i : Int) < (T.l.length : Int) := by omega
    obtain ⟨v, hb, ho, hGg, hGo, hGl⟩ := id h
    obtain ⟨bk, n', cc, B, d, hv, rfl, hlc, hcm, hob, hca, w1', w2', w3', w4', hbd, hdm, heb⟩ := up_at ho hu
    subst hv
    have hc0 := hb.cell 0
    have hub := hok.bs u (List.mem_of_getElem? hu)
    have L0 : ldV Try.prog w1 47 (.pointer (some (At bk (i * 5)))) = some (.agg #[.int .u32 u.n, .int .u64 u.owner, .string u.name, .slice B u.b.length d, .int .i64 u.page]) := ldV_agg sh47 rfl hca
    have kA : Keep w1 (w1.alloc (.cells #[.int .u32 0, .int .u64 0, .string ⟨#[]⟩, .slice none 0 0, .int .i64 0] 47)) := Fx.alloc _ _ _
    have hy : Blk _ _ _ _ := Blk.new w1 47 #[.int .u32 0, .int .u64 0, .string ⟨#[]⟩, .slice none 0 0, .int .i64 0]
    have S0 := stB (P := Try.prog) (o := 0) sz47 hy (by decide)
    have hy2 : Blk _ _ _ #[.int .u32 u.n, .int .u64 u.owner, .string u.name, .slice B u.b.length d, .int .i64 u.page] := hy.put 0 [.int .u32 u.n, .int .u64 u.owner, .string u.name, .slice B u.b.length d, .int .i64 u.page]
    have sA := size_alloc w1 (.cells #[.int .u32 0, .int .u64 0, .string ⟨#[]⟩, .slice none 0 0, .int .i64 0] 47)
    simp -implicitDefEqProofs only [go_sem, ↓reduceIte, Nat.reduceEqDiff, Int.reduceLT, not_false_eq_true, List.map_toArray, List.map_cons, List.map_nil, Option.isSome_some, Nat.reduceLT, Int.reduceToNat, Int.reducePow, Nat.reduceAdd, Int.toNat_natCast, Bool.not_true, Bool.not_false, Nat.mul_one, decide_true, decide_false, Bool.false_eq_true, List.getElem?_cons_zero, List.getElem?_cons_succ, Int.reduceEq, Option.map_some, Option.map_none, at_add, add_zero', Nat.zero_add, Nat.add_zero, Nat.zero_mul, List.getElem?_toArray, List.length_cons, List.length_nil, allOne_nil, allOne_cons, Bool.and_true, Bool.true_and, Nat.reduceLT, Nat.reduceLeDiff, Int.reduceLE, List.append_toArray, List.cons_append, List.nil_append, List.append_nil, Option.elim_some, z, i0, i1, hc0, L0, S0]
    have fP : Fx (only w1.heap.size) (w1.alloc (.cells #[.int .u32 0, .int .u64 0, .string ⟨#[]⟩, .slice none 0 0, .int .i64 0] 47)) (putW (w1.alloc (.cells #[.int .u32 0, .int .u64 0, .string ⟨#[]⟩, .slice none 0 0, .int .i64 0] 47)) w1.heap.size 0 [.int .u32 u.n, .int .u64 u.owner, .string u.name, .slice B u.b.length d, .int .i64 u.page]) := Fx.put _ _ _ _ rfl
    have k2 : Keep w1 _ := kA.new fP (fun k e hk => by have : k = w1.heap.size := e; omega)
    have s2 : (putW (w1.alloc (.cells #[.int .u32 0, .int .u64 0, .string ⟨#[]⟩, .slice none 0 0, .int .i64 0] 47)) w1.heap.size 0 [.int .u32 u.n, .int .u64 u.owner, .string u.name, .slice B u.b.length d, .int .i64 u.page]).heap.size = w1.heap.size + 1 := by rw [size_put]; exact sA
    generalize putW (w1.alloc (.cells #[.int .u32 0, .int .u64 0, .string ⟨#[]⟩, .slice none 0 0, .int .i64 0] 47)) w1.heap.size 0 [.int .u32 u.n, .int .u64 u.owner, .string u.name, .slice B u.b.length d, .int .i64 u.page] = w2 at *
    obtain ⟨y, hyy⟩ : ∃ y, y = w1.heap.size := ⟨_, rfl⟩
    rw [← hyy] at hy2 ⊢
    refine (rcut_calls (h.fx k2 (fun _ _ x => x)) hok.len hlt).mono ?_
    rintro v w3 ⟨rfl, ⟨G3, hR3, f3, hs3⟩, f3o⟩
    have s3 := f3.size
    have hgl := hGl g hGg
    have hy3 := f3o.blk hy2 (fun e => by have : y = g := e; omega)
    have heb3 : Elems (Kind.int .u8) (fun k => k < w2.heap.size) w3 B u.b := ((heb.keep k2).mono Nat.zero_lt_one (U' := fun k => k < w2.heap.size ∧ k ≠ g) fun k hk hu => ⟨hk, hu.1.2⟩).fx f3o (fun k hk e => hk.2 e) |>.mono Nat.zero_lt_one fun k _ hk => hk.1
    simp -implicitDefEqProofs only [go_sem, ↓reduceIte, Nat.reduceEqDiff, Int.reduceLT, not_false_eq_true, List.map_toArray, List.map_cons, List.map_nil, Option.isSome_some, Nat.reduceLT, Int.reduceToNat, Int.reducePow, Nat.reduceAdd, Int.toNat_natCast, Bool.not_true, Bool.not_false, Nat.mul_one, decide_true, decide_false, Bool.false_eq_true, List.getElem?_cons_zero, List.getElem?_cons_succ, Int.reduceEq, Option.map_some, Option.map_none, at_add, add_zero', Nat.zero_add, Nat.add_zero, Nat.zero_mul, List.getElem?_toArray, List.length_cons, List.length_nil, allOne_nil, allOne_cons, Bool.and_true, Bool.true_and, Nat.reduceLT, Nat.reduceLeDiff, Int.reduceLE, List.append_toArray, List.cons_append, List.nil_append, List.append_nil, hy3.cell]
    have kB : Keep w3 (w3.alloc (.cells #[.slice B u.b.length d, .int .i64 0] 76)) := Fx.alloc _ _ _
    have hbr : Blk _ _ _ _ := Blk.new w3 76 #[.slice B u.b.length d, .int .i64 0]
    have sB := size_alloc w3 (.cells #[.slice B u.b.length d, .int .i64 0] 76)
    have heb4 := heb3.keep kB
    have hR4 := hR3.fx kB (fun _ _ x => x)
    have hy4 := kB.blk hy3 (fun x => x)
    have hlR : ∀ k, G3 k → k < w3.heap.size := by
      obtain ⟨_, _, _, _, _, q⟩ := hR3
      exact q
    generalize w3.alloc (.cells #[.slice B u.b.length d, .int .i64 0] 76) = w4 at *
    obtain ⟨z', hz'⟩ : ∃ z', z' = w3.heap.size := ⟨_, rfl⟩
    rw [← hz'] at hbr ⊢
    have hU : ¬ (z' < w2.heap.size) := by omega
    have h4 : RdS 76 (fun k => k < w2.heap.size) w4 z' ⟨u.b, 0⟩ := ⟨B, d, hbr, hbd, hdm, heb4⟩
    refine (refChanges_calls (U := fun k => k < w2.heap.size) hU (fun k hk => by omega) h4).mono ?_
    rintro v5 w5 ⟨hrep, h5, f5⟩
    have s5 := f5.size
    have o5 := kChanges.one hrep v5 (by simp)
    simp -implicitDefEqProofs only [go_sem, ↓reduceIte, Nat.reduceEqDiff, Int.reduceLT, not_false_eq_true, List.map_toArray, List.map_cons, List.map_nil, Option.isSome_some, Nat.reduceLT, Int.reduceToNat, Int.reducePow, Nat.reduceAdd, Int.toNat_natCast, Bool.not_true, Bool.not_false, Nat.mul_one, decide_true, decide_false, Bool.false_eq_true, List.getElem?_cons_zero, List.getElem?_cons_succ, Int.reduceEq, Option.map_some, Option.map_none, at_add, add_zero', Nat.zero_add, Nat.add_zero, Nat.zero_mul, List.getElem?_toArray, List.length_cons, List.length_nil, allOne_nil, allOne_cons, Bool.and_true, Bool.true_and, Nat.reduceLT, Nat.reduceLeDiff, Int.reduceLE, List.append_toArray, List.cons_append, List.nil_append, List.append_nil]
    refine (refEnd_calls (U := fun k => k < w2.heap.size) hU h5).mono ?_
    rintro v6 w6 ⟨rfl, h6, f6⟩
    have hrep6 := kChanges.fx hrep f6 (fun k hk e => by have : k = z' := e; omega)
    have hrep' := kChanges.mono hrep6 (U' := fun k => y ≤ k) (fun k _ hk => by omega)
    have k46 : Keep w3 w6 := kB.new (f5.tr f6) (fun k e hk => by have : k = z' := e; omega)
    have hR6 := hR3.fx k46 (fun _ _ x => x)
    have hy6 := k46.blk hy3 (fun x => x)
    have hst : RStep w1 w6 g ⟨T.l.eraseIdx i, T.last⟩ G := ⟨G3, hR6, ((k2.fx G).tr f3).keep k46, fun k hk => by rcases hs3 k hk with q | q; exact .inl q; exact .inr (by omega)⟩
    have eq : rlist rchange ⟨u.b, 0⟩ = rchanges ⟨u.b, 0⟩ := rfl
    rw [eq] at *
    unfold getChanges
    by_cases hw : (rend (rchanges ⟨u.b, 0⟩).2).why = 0
    · have zz : ((rend (rchanges ⟨u.b, 0⟩).2).why != 0) = false := by rw [hw]; rfl
      rw [if_pos hw]
      simp -implicitDefEqProofs only [go_sem, ↓reduceIte, Nat.reduceEqDiff, Int.reduceLT, not_false_eq_true, List.map_toArray, List.map_cons, List.map_nil, Option.isSome_some, Nat.reduceLT, Int.reduceToNat, Int.reducePow, Nat.reduceAdd, Int.toNat_natCast, Bool.not_true, Bool.not_false, Nat.mul_one, decide_true, decide_false, Bool.false_eq_true, List.getElem?_cons_zero, List.getElem?_cons_succ, Int.reduceEq, Option.map_some, Option.map_none, at_add, add_zero', Nat.zero_add, Nat.add_zero, Nat.zero_mul, List.getElem?_toArray, List.length_cons, List.length_nil, allOne_nil, allOne_cons, Bool.and_true, Bool.true_and, Nat.reduceLT, Nat.reduceLeDiff, Int.reduceLE, List.append_toArray, List.cons_append, List.nil_append, List.append_nil, zz, hy6.cell]
      exact ⟨_, rfl, hrep', hst⟩
    · have zz : ((rend (rchanges ⟨u.b, 0⟩).2).why != 0) = true := by rw [bne_iff_ne]; exact hw
      rw [if_neg hw]
      simp only [hw, if_false]
      simp -implicitDefEqProofs only [go_sem, ↓reduceIte, Nat.reduceEqDiff, Int.reduceLT, not_false_eq_true, List.map_toArray, List.map_cons, List.map_nil, Option.isSome_some, Nat.reduceLT, Int.reduceToNat, Int.reducePow, Nat.reduceAdd, Int.toNat_natCast, Bool.not_true, Bool.not_false, Nat.mul_one, decide_true, decide_false, Bool.false_eq_true, List.getElem?_cons_zero, List.getElem?_cons_succ, Int.reduceEq, Option.map_some, Option.map_none, at_add, add_zero', Nat.zero_add, Nat.add_zero, Nat.zero_mul, List.getElem?_toArray, List.length_cons, List.length_nil, allOne_nil, allOne_cons, Bool.and_true, Bool.true_and, Nat.reduceLT, Nat.reduceLeDiff, Int.reduceLE, List.append_toArray, List.cons_append, List.nil_append, List.append_nil, zz]
      exact ⟨_, rfl, nil_rep _ _, hst⟩
end
end Go.Proofs.Ytdnlnaeonhbfiaa.F
