/- Further rules of the machine: struct values made, loaded and stored, rows of data of a kind that a call builds, the runes of a text. Conditions: those that each theorem names. -/
import Derived.Test.YtnoeeiaffnbhcaaKind
namespace Go.Proofs.Ytnoeeiaffnbhcaa.M
open Go.RowKit
variable {P : Program}

abbrev At (g : Nat) (i : Nat) : Addr := ⟨g, i, none⟩
abbrev only (g : Nat) : Nat → Prop := fun k => k = g
theorem at_add (g o i : Nat) : (⟨g, o, none⟩ : Addr).add i = ⟨g, o + i, none⟩ := by unfold Addr.add; split <;> simp_all
@[go_sem] theorem cells_agg (cs : Array Value) : (Value.agg cs).cells = cs := rfl
@[go_sem] theorem cells_ptr (a : Option Addr) : (Value.pointer a).cells = #[.pointer a] := rfl
@[go_sem] theorem cells_int (k : IntKind) (n : Int) : (Value.int k n).cells = #[.int k n] := rfl
@[go_sem] theorem cells_slc (a : Option Addr) (n c : Nat) : (Value.slice a n c).cells = #[.slice a n c] := rfl
@[go_sem] theorem one_map (a : Option Nat) : (Value.map a).oneCell' = true := rfl
@[go_sem] theorem boxK_eq (t : TypeId) (v : Value) (w : World) (k : Value → World → Prop) : boxK t v w k = k (.pointer (some (At w.heap.size 0))) (w.alloc (.cells v.cells t)) := rfl

/-! ### a struct is stored -/
def putC (cs : Array Value) (o : Nat) (vs : List Value) : Array Value := (cs.toList.take o ++ vs ++ cs.toList.drop (o + vs.length)).toArray
def putO (o : Nat) (vs : List Value) : Obj → Obj
  | .cells c e f => .cells (putC c o vs) e f
  | x => x
def putW (w : World) (g o : Nat) (vs : List Value) : World := { w with heap := w.heap.modify g (putO o vs) }
theorem Blk.put {w : World} {g : Nat} {t : TypeId} {cs : Array Value} (h : Blk w g t cs) (o : Nat) (vs : List Value) : Blk (putW w g o vs) g t (putC cs o vs) := by
  unfold Blk putW
  have h' : w.heap[g]? = _ := h
  simp [Array.getElem?_modify, h', putO]
theorem Blk.put_ne {w : World} {g g' : Nat} {t : TypeId} {cs : Array Value} (h : Blk w g t cs) (hne : g' ≠ g) (o : Nat) (vs : List Value) : Blk (putW w g' o vs) g t cs := by
  unfold Blk putW
  have h' : w.heap[g]? = _ := h
  simp [Array.getElem?_modify, hne, h']
theorem Fx.put {m : Nat → Prop} (w : World) (g o : Nat) (vs : List Value) (hm : m g) : Fx m w (putW w g o vs) :=
  ⟨rfl, rfl, rfl, by simp [putW], fun k _ hn => by
    have : g ≠ k := fun e => hn (e ▸ hm)
    simp [putW, Array.getElem?_modify, this]⟩
theorem size_put (w : World) (g o : Nat) (vs : List Value) : (putW w g o vs).heap.size = w.heap.size := by simp [putW]
theorem put_none {w : World} {g t o : Nat} {cs : Array Value} (h : Blk w g t cs) : putW w g o [] = w := by
  have h' : w.heap[g]? = _ := h
  have hl : w.heap.modify g (putO o []) = w.heap := by
    apply Array.ext_getElem?
    intro i
    rw [Array.getElem?_modify]
    by_cases e : g = i
    · subst e
      rw [if_pos rfl, h']
      simp [putO, putC]
    · rw [if_neg e]
  show { w with heap := w.heap.modify g (putO o []) } = w
  rw [hl]
theorem set_put (cs : Array Value) (o : Nat) (v : Value) (vs : List Value) (ho : o < cs.size) : putC (cs.setIfInBounds o v) (o + 1) vs = putC cs o (v :: vs) := by
  unfold putC
  apply Array.ext'
  simp only [Array.toList_setIfInBounds]
  rw [List.drop_set]
  rw [if_pos (by omega)]
  have h1 : (cs.toList.set o v).take (o + 1) = cs.toList.take o ++ [v] := by
    rw [List.take_succ_eq_append_getElem (by simpa using ho), List.take_set, List.set_eq_of_length_le (by rw [List.length_take]; omega)]
    simp
  rw [h1]
  have h2 : o + 1 + vs.length = o + (vs.length + 1) := by omega
  simp only [List.append_assoc, List.cons_append, List.nil_append, List.length_cons, h2]
theorem setCell_put {w : World} {g t o : Nat} {cs : Array Value} {v : Value} {vs : List Value} (h : Blk w g t cs) (ho : o < cs.size) : putW (w.setCell ⟨g, o, none⟩ v) g (o + 1) vs = putW w g o (v :: vs) := by
  have h' : w.heap[g]? = _ := h
  unfold putW World.setCell
  simp only
  congr 1
  apply Array.ext_getElem?
  intro i
  simp only [Array.getElem?_modify]
  by_cases e : g = i
  · subst e
    simp only [if_true, h', Option.map_some, putO]
    simp [set_put cs o v vs ho]
  · simp only [e, if_false]
theorem stCells_put {t : TypeId} {g : Nat} : ∀ {vs : List Value} {w : World} {o i : Nat} {cs : Array Value}, Blk w g t cs → o + i + vs.length ≤ cs.size → (∀ v ∈ vs, v.oneCell' = true) → stCells w ⟨g, o, none⟩ i vs = some (putW w g (o + i) vs)
  | [], w, o, i, cs, h, _, _ => by rw [put_none h]; rfl
  | v :: vs, w, o, i, cs, h, hl, h1 => by
    simp only [List.length_cons] at hl
    unfold stCells
    rw [at_add, h.cell, h.frozen, h1 v (by simp)]
    rw [if_pos (by simp [Array.getElem?_eq_getElem (by omega : o + i < cs.size)])]
    have h2 := h.set (o + i) v
    have := stCells_put (vs := vs) (o := o) (i := i + 1) h2 (by simp; omega) (fun x hx => h1 x (by simp [hx]))
    rw [this, ← Nat.add_assoc, setCell_put h (by omega)]
theorem stV_put {w : World} {g t ty o n : Nat} {cs : Array Value} {vs : List Value} (hz : sizeOf1 P ty = some n) (hn : vs.length = n) (h : Blk w g t cs) (ho : o + n ≤ cs.size) (h1 : ∀ v ∈ vs, v.oneCell' = true) :
    stV P w ty (.pointer (some (At g o))) (.agg vs.toArray) = some (putW w g o vs) := by
  subst hn
  show (if sizeOf1 P ty = some (Value.agg vs.toArray).cells.size then stCells w (At g o) 0 (Value.agg vs.toArray).cells.toList else none) = _
  rw [if_pos (by rw [hz]; rfl)]
  exact stCells_put (vs := vs) (o := o) (i := 0) h (by omega) h1
/-- One cell of a block is stored. -/
theorem stV_at {w : World} {g t ty o : Nat} {cs : Array Value} {v : Value} (hz : sizeOf1 P ty = some 1) (h : Blk w g t cs) (ho : o < cs.size) (h1 : v.oneCell' = true) : stV P w ty (.pointer (some (At g o))) v = some (putW w g o [v]) := by
  have e := cells_one h1
  show (if sizeOf1 P ty = some v.cells.size then stCells w (At g o) 0 v.cells.toList else none) = _
  rw [e, if_pos (by rw [hz]; rfl)]
  have := stCells_put (vs := [v]) (o := o) (i := 0) h (by simp; omega) (fun x hx => by simp at hx; subst hx; exact h1)
  simpa using this

def allOne : List Value → Bool
  | [] => true
  | v :: vs => v.oneCell' && allOne vs
theorem allOne_nil : allOne [] = true := rfl
theorem allOne_cons (v : Value) (vs : List Value) : allOne (v :: vs) = (v.oneCell' && allOne vs) := rfl
theorem allOne_mem : ∀ {vs : List Value}, allOne vs = true → ∀ v ∈ vs, v.oneCell' = true
  | v :: vs, h, u, hu => by
    rw [allOne_cons, Bool.and_eq_true] at h
    rcases List.mem_cons.1 hu with rfl | hu
    · exact h.1
    · exact allOne_mem h.2 u hu
/-- A struct's value is stored: the walk's rule. -/
theorem stB {w : World} {g t ty o n : Nat} {cs : Array Value} (hz : sizeOf1 P ty = some n) (h : Blk w g t cs) (ho : o + n ≤ cs.size) (vs : List Value) (hn : vs.length = n) (h1 : allOne vs = true) :
    stV P w ty (.pointer (some (At g o))) (.agg vs.toArray) = some (putW w g o vs) := stV_put hz hn h ho (allOne_mem h1)

/-! ### a struct is made -/
theorem bldV_of {t : TypeId} {fs : Array Field} {z : Array Value} {l : List (Nat × Nat)} (hu : P.underlying t = some (.struct fs)) (hz : (P.info? t).bind (·.zero) = some (.agg z)) (hl : placesOf P fs.toList = some l) (ps : Array (Nat × Value)) {out : Array Value}
    (h : Instr.fill (l[·]?) z ps.toList = some out) : bldV P t ps = some (.agg out) := by
  have h' : Instr.fill (l[·]?) (Value.agg z).cells ps.toList = some out := h
  simp [bldV, hu, hz, hl, h']
def PlaceOf (P : Program) (t : TypeId) (l : List (Nat × Nat)) : Prop := ∃ fs, P.underlying t = some (.struct fs) ∧ placesOf P fs.toList = some l
theorem bldV_at {t : TypeId} {z : Array Value} {l : List (Nat × Nat)} (hp : PlaceOf P t l) (hz : (P.info? t).bind (·.zero) = some (.agg z)) (ps : Array (Nat × Value)) {out : Array Value}
    (h : Instr.fill (l[·]?) z ps.toList = some out) : bldV P t ps = some (.agg out) := by
  obtain ⟨fs, hu, hl⟩ := hp
  exact bldV_of hu hz hl ps h
theorem bldK_eq {t : TypeId} {ps : Array (Nat × Value)} {v : Value} (h : bldV P t ps = some v) (w : World) (k : Value → World → Prop) : bldK P t ps w k = k v w := by
  have hr := bldV_run h w
  refine propext ⟨fun ⟨v', w', hr', hk⟩ => ?_, fun hk => ⟨v, w, hr, hk⟩⟩
  rw [hr] at hr'
  cases hr'
  exact hk

/-! ### new memory -/
theorem alloc_eq {t : TypeId} {z : Value} (hz : (P.info? t).bind (·.zero) = some z) (w : World) (k : Value → World → Prop) : runK P (Instr.alloc t true (.tuple #[])) w k = k (.pointer (some (At w.heap.size 0))) (w.alloc (.cells z.cells t)) := by
  have hr : (Instr.alloc t true (.tuple #[])).run P w = .ok (.pointer (some (At w.heap.size 0))) (w.alloc (.cells z.cells t)) := by
    cases hi : P.info? t with
    | none => rw [hi] at hz; cases hz
    | some i =>
      rw [hi] at hz
      replace hz : i.zero = some z := hz
      simp [Instr.alloc, zeroValue, typeInfo, hi, hz, newVar, newRow, newObj]
      rfl
  refine propext ⟨fun ⟨v', w', hr', hk⟩ => ?_, fun hk => ⟨_, _, hr, hk⟩⟩
  rw [hr] at hr'
  cases hr'
  exact hk
/-- The type of a row, its elements' cells and bytes. -/
def ET (P : Program) (t e sz by_ : Nat) : Prop := P.underlying t = some (.slice e) ∧ (P.info? e).map (fun i => (i.zero.map (fun z => z.cells.size), i.size, i.bytes)) = some (some sz, sz, by_)
theorem ET.info {t e sz by_ : Nat} (h : ET P t e sz by_) : ∃ i z, P.info? e = some i ∧ i.zero = some z ∧ i.size = sz ∧ i.bytes = by_ ∧ z.cells.size = sz := by
  obtain ⟨_, h⟩ := h
  cases hi : P.info? e with
  | none => rw [hi] at h; cases h
  | some i =>
    rw [hi] at h
    simp only [Option.map_some, Option.some.injEq, Prod.mk.injEq] at h
    obtain ⟨h1, h2, h3⟩ := h
    cases hz : i.zero with
    | none => rw [hz] at h1; cases h1
    | some z =>
      rw [hz] at h1
      exact ⟨i, z, rfl, hz, h2, h3, by simpa using h1⟩
theorem foldl_set (vs : List Value) : ∀ (o : Nat) (cs : Array Value), o + vs.length ≤ cs.size → (vs.zipIdx o).foldl (fun cs (x : Value × Nat) => cs.setIfInBounds x.2 x.1) cs = putC cs o vs := by
  induction vs with
  | nil => intro o cs _; simp [putC]
  | cons v vs ih =>
    intro o cs h
    simp only [List.length_cons] at h
    rw [List.zipIdx_cons, List.foldl_cons, ih (o + 1) _ (by simp; omega), set_put cs o v vs (by omega)]
theorem fill_whole (v : Value) (cs : Array Value) (hs : cs.size = v.cells.size) : Instr.fill (fun i => some (i * v.cells.size, v.cells.size)) cs [(0, v)] = some v.cells := by
  unfold Instr.fill
  simp only [Nat.zero_mul, ne_eq, Bool.or_eq_true, decide_eq_true_eq, Nat.zero_add]
  rw [if_neg (by simp [hs])]
  have : v.cells.zipIdx.foldl (fun cs (x : Value × Nat) => cs.setIfInBounds x.2 x.1) cs = v.cells := by
    rw [← Array.foldl_toList]
    have := foldl_set v.cells.toList 0 cs (by simp; omega)
    simp only [Array.toList_zipIdx] 
    rw [this]
    unfold putC
    apply Array.ext'
    simp [hs]
  simp only [Instr.fill, this]
theorem bsl_val {t e sz by_ : Nat} (hT : ET P t e sz by_) (h0 : 0 < sz) (h24 : sz ≤ 16777216) {v : Value} (hv : v.cells.size = sz) {w : World} {k : Value → World → Prop} (hk : k (.slice (some (At w.heap.size 0)) 1 1) (w.alloc (.cells v.cells e))) : bslK P t 1 #[(0, v)] w k := by
  obtain ⟨i, z, hi, hz, hs, hb, hzs⟩ := hT.info
  refine runK_of ?_ hk
  have hfill := fill_whole v ((Array.range sz).map fun x => z.cells[x % z.cells.size]!) (by simp [hv])
  rw [hv] at hfill
  have h24' : ¬ (16777216 < sz) := by omega
  have h0' : ¬ sz = 0 := by omega
  simp [Instr.buildSlice, run_underlying hT.1, sizeOf, typeInfo, hi, hs, zeroValue, hz, h24', h0', hfill, newRow, newObj]
  rfl
theorem bsl_none {t e sz by_ : Nat} (hT : ET P t e sz by_) {w : World} {k : Value → World → Prop} (hk : k (.slice (some (At w.heap.size 0)) 0 0) (w.alloc (.cells #[] e))) : bslK P t 0 #[] w k := by
  obtain ⟨i, z, hi, hz, hs, hb, hzs⟩ := hT.info
  refine runK_of ?_ hk
  simp [Instr.buildSlice, run_underlying hT.1, sizeOf, typeInfo, hi, Instr.fill, newRow, newObj]
  have e0 : ∀ f : Nat → Value, (Array.range 0).map f = #[] := fun f => by apply Array.ext'; simp
  rw [e0]
  rfl

/-! ### a row of the call's own, of data of a kind -/
def OwnR {α : Type} (K : Kind α) (e : TypeId) (U : Nat → Prop) (lo : Nat) (w : World) (v : Value) (xs : List α) : Prop :=
  ∃ css : List (List Value), w.ownsRow lo e K.sz v xs.length css.flatten ∧ css.length = xs.length ∧ ∀ (j : Nat) x, xs[j]? = some x → ∃ vs, css[j]? = some vs ∧ K.rep (fun k => U k ∧ v.ownBlock ≠ some k) w x vs
theorem OwnR.nil {α : Type} (K : Kind α) (e : TypeId) (U : Nat → Prop) (lo : Nat) (w : World) : OwnR K e U lo w (.slice none 0 0) [] := ⟨[], World.ownsRow_nil w lo e K.sz, rfl, fun j x hx => by simp at hx⟩
theorem flat_at {css : List (List Value)} {sz : Nat} (h : ∀ vs ∈ css, vs.length = sz) : ∀ {j : Nat} {vs : List Value}, css[j]? = some vs → ∀ i v, vs[i]? = some v → css.flatten[j * sz + i]? = some v := by
  induction css with
  | nil => intro j vs hj; simp at hj
  | cons c css ih =>
    intro j vs hj i v hi
    have hc := h c (by simp)
    cases j with
    | zero =>
      cases hj
      rw [List.flatten_cons, Nat.zero_mul, Nat.zero_add, List.getElem?_append_left (List.getElem?_eq_some_iff.1 hi).1]
      exact hi
    | succ j =>
      have := ih (fun vs hv => h vs (by simp [hv])) (j := j) (vs := vs) hj i v hi
      rw [List.flatten_cons, List.getElem?_append_right (by rw [hc, Nat.succ_mul]; omega), hc]
      rw [show (j + 1) * sz + i - sz = j * sz + i by rw [Nat.succ_mul]; omega]
      exact this
theorem OwnR.lens {α : Type} {K : Kind α} {U : Nat → Prop} {w : World} {xs : List α} {css : List (List Value)} (hl : css.length = xs.length) (h : ∀ (j : Nat) x, xs[j]? = some x → ∃ vs, css[j]? = some vs ∧ K.rep U w x vs) : ∀ vs ∈ css, vs.length = K.sz := by
  intro vs hvs
  obtain ⟨j, hj, e⟩ := List.mem_iff_getElem.1 hvs
  obtain ⟨vs', h1, h2⟩ := h j _ (List.getElem?_eq_getElem (by omega : j < xs.length))
  rw [List.getElem?_eq_getElem hj, e] at h1
  cases h1
  exact K.len h2
theorem OwnR.cap {α : Type} {K : Kind α} {e : TypeId} {U : Nat → Prop} {lo : Nat} {w : World} {v : Value} {xs : List α} (h : OwnR K e U lo w v xs) : ∃ A c, v = .slice A xs.length c ∧ xs.length ≤ c ∧ c ≤ maxLen ∧ (xs = [] ∨ ∃ g, A = some (At g 0) ∧ v.ownBlock = some g) := by
  obtain ⟨css, h1, hl, h2⟩ := h
  rcases h1.2 with ⟨hv, hn⟩ | ⟨g, cap, cur, hv, hb, hg, hc, hm, hs, ht⟩
  · have : xs = [] := List.eq_nil_of_length_eq_zero hn
    subst this
    exact ⟨none, 0, hv, Nat.le_refl _, Nat.zero_le _, .inl rfl⟩
  · exact ⟨_, cap, hv, hc, hm, .inr ⟨g, rfl, by rw [hv]; rfl⟩⟩
/-- What was built is data of the kind of rows. -/
theorem OwnR.rep {α : Type} {K : Kind α} (hz : 0 < K.sz) {e : TypeId} {U U' : Nat → Prop} {lo : Nat} {w : World} {v : Value} {xs : List α} (h : OwnR K e U lo w v xs) (hU : ∀ k, U k → U' k) (hlo : ∀ k, lo ≤ k → U' k) : (Kind.list K hz).rep U' w xs [v] := by
  obtain ⟨A, c, hv, hlc, hm, hA⟩ := h.cap
  refine ⟨A, c, by rw [hv], hlc, hm, ?_⟩
  obtain ⟨css, h1, hl, h2⟩ := h
  intro j x hx
  rcases hA with rfl | ⟨g, rfl, hg⟩
  · simp at hx
  obtain ⟨vs, hc1, hr⟩ := h2 j x hx
  refine ⟨_, rfl, hlo _ (World.ownsRow.lt h1 g hg).1, vs, K.mono hr fun k _ hk => hU k hk.1, fun i u hi => ?_⟩
  rw [at_add, at_add]
  have := World.ownsRow.cells h1 (g := g) hg (j * K.sz + i) u (flat_at (OwnR.lens hl h2) hc1 i u hi)
  rw [at_add] at this
  rw [Nat.add_assoc]; exact this
theorem OwnR.lt {α : Type} {K : Kind α} {e : TypeId} {U : Nat → Prop} {lo : Nat} {w : World} {v : Value} {xs : List α} (h : OwnR K e U lo w v xs) {k : Nat} (hk : v.ownBlock = some k) : lo ≤ k ∧ k < w.heap.size := by
  obtain ⟨css, h1, _⟩ := h
  exact World.ownsRow.lt h1 k hk
theorem OwnR.fx {α : Type} {K : Kind α} {e : TypeId} {U : Nat → Prop} {lo : Nat} {m : Nat → Prop} {w w' : World} {v : Value} {xs : List α} (h : OwnR K e U lo w v xs) (hf : Fx m w w') (hU : ∀ k, U k → v.ownBlock ≠ some k → ¬ m k) (hn : ∀ k, v.ownBlock = some k → ¬ m k) : OwnR K e U lo w' v xs := by
  obtain ⟨css, h1, hl, h2⟩ := h
  refine ⟨css, ?_, hl, fun j x hx => ?_⟩
  · refine ⟨h1.1, ?_⟩
    rcases h1.2 with hv | ⟨g, cap, cur, hv, hb, hg, r⟩
    · exact .inl hv
    · refine .inr ⟨g, cap, cur, hv, hb, ?_, r⟩
      rw [hf.block g (Array.getElem?_eq_some_iff.1 hg).1 (hn g (by rw [hv]; rfl))]
      exact hg
  · obtain ⟨vs, hc, hr⟩ := h2 j x hx
    exact ⟨vs, hc, K.fx hr hf fun k hk => hU k hk.1 hk.2⟩
theorem OwnR.keep {α : Type} {K : Kind α} {e : TypeId} {U : Nat → Prop} {lo : Nat} {w w' : World} {v : Value} {xs : List α} (h : OwnR K e U lo w v xs) (hf : Keep w w') : OwnR K e U lo w' v xs := h.fx hf (fun _ _ _ x => x) (fun _ _ x => x)
/-- One more is appended. -/
theorem append_ownR_at {α : Type} {K : Kind α} {t e ty sz by_ : Nat} {U : Nat → Prop} {lo : Nat} {w : World} {v : Value} {xs : List α} {x : α} {ad : Addr} {c : Nat} {cs : List Value} {k : Value → World → Prop} (hT : ET P t e sz by_) (hsz : K.sz = sz) (h0 : 0 < sz)
    (h : OwnR K e U lo w v xs) (hx : K.rep (fun k => U k ∧ v.ownBlock ≠ some k) w x cs) (hc : CellsAt w ad cs) (hlen : (xs.length + 1) * by_ ≤ 140737488355328) (hlen' : xs.length + 1 ≤ maxLen) (hb : lo ≤ w.heap.size)
    (hk : ∀ v' w', OwnR K e U lo w' v' (xs ++ [x]) → Fx (fun k => v.ownBlock = some k) w w' → (v'.ownBlock = v.ownBlock ∨ v'.ownBlock = some w.heap.size) → k v' w') : appK P #[t, t] ty #[v, .slice (some ad) 1 c] w k := by
  subst hsz
  obtain ⟨i, z, hi, hz, hs, hby, hzs⟩ := hT.info
  obtain ⟨css, h1, hl, h2⟩ := h
  obtain ⟨v', w', hrun, hown, hg, _, hat⟩ := run_append_own_at (P := P) w lo t ty e i z K.sz by_ hT.1 hi hz hs hby hzs h0 v xs.length css.flatten h1 ad 1 c cs (by rw [K.len hx, Nat.one_mul]) (fun j u hu => hc j u hu) (K.one hx) hlen' hlen hb
  refine runK_of hrun (hk v' w' ?_ ⟨hg.os, hg.tape, hg.output, hg.size, fun k hk hn => hg.block k hk (fun e => hn e.symm)⟩ hat)
  refine ⟨css ++ [cs], ?_, by simp [hl], fun j y hy => ?_⟩
  · rw [List.length_append, List.flatten_append]
    simpa using hown
  · have mv : ∀ {y : α} {vs : List Value}, K.rep (fun k => U k ∧ v.ownBlock ≠ some k) w y vs → K.rep (fun k => U k ∧ v'.ownBlock ≠ some k) w' y vs := by
      intro y vs hy
      refine K.ext (K.mono hy (U' := fun k => U k ∧ v.ownBlock ≠ some k ∧ v'.ownBlock ≠ some k) fun k hlt hu => ⟨hu.1, hu.2, ?_⟩) (fun k hu hlt => hg.block k hlt (fun e => hu.2.1 e.symm)) |> fun q => K.mono q fun k _ hu => ⟨hu.1, hu.2.2⟩
      rcases hat with e | e
      · rw [e]; exact hu.2
      · rw [e]; intro e'; cases e'; omega
    rw [List.getElem?_append] at hy
    split at hy
    · obtain ⟨vs, ha, hr⟩ := h2 j y hy
      exact ⟨vs, by rw [List.getElem?_append_left (by omega)]; exact ha, mv hr⟩
    · rename_i hge
      have hj := (List.getElem?_eq_some_iff.1 hy).1
      have : j = xs.length := by simp at hj; omega
      subst this
      rw [Nat.sub_self] at hy
      cases hy
      exact ⟨cs, by rw [List.getElem?_append_right (by omega), hl, Nat.sub_self]; rfl, mv hx⟩

theorem append_ownR {α : Type} {K : Kind α} {t e ty sz by_ : Nat} {U : Nat → Prop} {lo : Nat} {w : World} {v : Value} {xs : List α} {x : α} {ad : Addr} {c : Nat} {cs : List Value} {k : Value → World → Prop} (hT : ET P t e sz by_) (hsz : K.sz = sz) (h0 : 0 < sz)
    (h : OwnR K e U lo w v xs) (hx : K.rep (fun k => U k ∧ v.ownBlock ≠ some k) w x cs) (hc : CellsAt w ad cs) (hlen : (xs.length + 1) * by_ ≤ 140737488355328) (hlen' : xs.length + 1 ≤ maxLen) (hb : lo ≤ w.heap.size)
    (hk : ∀ v' w', OwnR K e U lo w' v' (xs ++ [x]) → Fx (fun k => v.ownBlock = some k) w w' → k v' w') : appK P #[t, t] ty #[v, .slice (some ad) 1 c] w k :=
  append_ownR_at hT hsz h0 h hx hc hlen hlen' hb fun v' w' a b _ => hk v' w' a b

/-! ### bytes of the call's own -/
theorem OwnI.ne {e : TypeId} {kd : IntKind} {b : Nat} {w : World} {v : Value} {xs : List Int} (h : OwnI e kd b w v xs) {g t : Nat} {cs : Array Value} (hb : Blk w g t cs) (hne : t ≠ e) : v.ownBlock ≠ some g := by
  intro hv
  rcases h.2 with ⟨hv', _⟩ | ⟨g', cap, cur, hv', _, hg, _⟩
  · rw [hv'] at hv; cases hv
  · rw [hv'] at hv
    have : g' = g := by simpa [Value.ownBlock] using hv
    subst this
    have hb' : w.heap[g']? = _ := hb
    rw [hb'] at hg
    cases hg
    exact hne rfl
theorem OwnR.ne {α : Type} {K : Kind α} {e : TypeId} {U : Nat → Prop} {lo : Nat} {w : World} {v : Value} {xs : List α} (h : OwnR K e U lo w v xs) {g t : Nat} {cs : Array Value} (hb : Blk w g t cs) (hne : t ≠ e) : v.ownBlock ≠ some g := by
  intro hv
  obtain ⟨css, h, _⟩ := h
  rcases h.2 with ⟨hv', _⟩ | ⟨g', cap, cur, hv', _, hg, _⟩
  · rw [hv'] at hv; cases hv
  · rw [hv'] at hv
    have : g' = g := by simpa [Value.ownBlock] using hv
    subst this
    have hb' : w.heap[g']? = _ := hb
    rw [hb'] at hg
    cases hg
    exact hne rfl
open Go.Lib in
theorem strCells_nums (s : ByteArray) : strCells s = (s.data.toList.map fun x => (x.toNat : Int)).map (Value.int .u8) := by
  unfold strCells
  rw [List.map_map]
  rfl
open Go.Lib in
/-- A text's bytes are appended. -/
theorem append_str {t u e ty : TypeId} {b : Nat} {w : World} {v : Value} {xs : List Int} {s : ByteArray} {k : Value → World → Prop} (hT : IE P t e .u8 1) (hu : P.underlying u = some .string) (h : OwnI e .u8 b w v xs)
    (hlen : xs.length + s.size ≤ 140737488355328) (hb : b ≤ w.heap.size)
    (hk : ∀ v' w', OwnI e .u8 b w' v' (xs ++ s.data.toList.map fun x => (x.toNat : Int)) → Fx (fun k => some k = v.ownBlock) w w' → k v' w') : appK P #[t, u] ty #[v, .string s] w k := by
  obtain ⟨ht, hi⟩ := hT
  cases hinfo : P.info? e with
  | none => rw [hinfo] at hi; cases hi
  | some i =>
    rw [hinfo] at hi
    simp only [Option.map_some, Option.some.injEq, Prod.mk.injEq] at hi
    obtain ⟨hz, hs, hby⟩ := hi
    obtain ⟨v', w', hrun, hown, hg, _⟩ := run_append_own_string (P := P) w b t u ty e i ht hu hinfo hz hs hby v xs.length (xs.map (Value.int .u8)) h s (by simp only [maxLen]; omega) hlen hb
    refine runK_of hrun (hk v' w' ?_ ⟨hg.os, hg.tape, hg.output, hg.size, fun k hk hn => hg.block k hk hn⟩)
    unfold OwnI
    rw [List.length_append, List.map_append, ← strCells_nums, List.length_map, Array.length_toList]
    exact hown

/-! ### the runes of a text of small bytes -/
def StrIter (w : World) (it : Nat) (s : ByteArray) (pos : Nat) : Prop := w.heap[it]? = some (.stringIter s pos)
theorem rangeS_run {t : TypeId} (ht : P.underlying t = some .string) (s : ByteArray) (w : World) : (Instr.range t (.string s)).run P w = .ok (.pointer (some (At w.heap.size 0))) (w.alloc (.stringIter s 0)) := by
  simp [Instr.range, run_underlying ht, newObj]
  rfl
theorem StrIter.new (w : World) (s : ByteArray) : StrIter (w.alloc (.stringIter s 0)) w.heap.size s 0 := by
  show (w.heap.push _)[w.heap.size]? = _
  simp
@[go_sem] theorem gdS_undef (b : Bool) (K : Fr → World → Prop) (d : Nat) (op : Op) (ty : TypeId) (r : List MI) (f : Fr) (w : World) : gdS undef b P K (some d) op ty r f w = RL P K r (upd f d undef) w := rfl
/-! ### the lesser of two -/
def minK (P : Program) (ats : Array TypeId) (ty : TypeId) (args : Array Value) (w : World) (k : Value → World → Prop) : Prop := runK P (Builtin.min_ ats ty args) w k
@[go_sem ↓] theorem stepK_min (args : Array Operand) (ats : Array TypeId) (ty : TypeId) (f : Fr) (w : World) (k : Value → World → Prop) : stepK P (.call { callee := .builtin .min, args := args, argTypes := ats }) ty f w k = minK P ats ty (args.map (ev f)) w k := rfl
@[go_sem] theorem minK_int (ats : Array TypeId) (ty : TypeId) (kk k2 : IntKind) (x y : Int) (w : World) (k : Value → World → Prop) : minK P ats ty #[.int kk x, .int k2 y] w k = k (.int kk (if y < x then y else x)) w := by
  have hr : (Builtin.min_ ats ty #[.int kk x, .int k2 y]).run P w = .ok (.int kk (if y < x then y else x)) w := run_min_int2 ..
  refine propext ⟨fun ⟨v', w', hr', hk⟩ => ?_, fun hk => ⟨_, _, hr, hk⟩⟩
  rw [hr] at hr'
  cases hr'
  exact hk
/-! ### results that lie in memory -/
def cellL (o : Option Value) (l : Option (List Value)) : Option (List Value) := match o, l with
  | some v, some l => some (v :: l)
  | _, _ => none
@[go_sem] theorem cellL_some (v : Value) (l : List Value) : cellL (some v) (some l) = some (v :: l) := rfl
@[go_sem] theorem resL_cell (a t : Nat) (r : List ResultVar) (f : Fr) (w : World) : resL P (.cell a t :: r) f w = cellL (ldV P w t (f a)) (resL P r f w) := rfl
/-- A struct that was stored whole is loaded. -/
theorem ldP {w : World} {g tb t n : Nat} {cs : Array Value} (hs : shapeOf P t = some (some n)) (h : Blk w g tb cs) (hn : cs.size = n) (vs : List Value) (hv : vs.length = n) : ldV P (putW w g 0 vs) t (.pointer (some (At g 0))) = some (.agg vs.toArray) := by
  have hb := h.put 0 vs
  have e : putC cs 0 vs = vs.toArray := by
    unfold putC
    apply Array.ext'
    simp
    omega
  rw [e] at hb
  exact ldV_agg hs hv hb.cells
/-- A slice is cut to its length, and its room with it. -/
theorem slcK_clip {t e z : Nat} {A : Option Addr} {n c : Nat} {w : World} {k : Value → World → Prop} (ht : P.underlying t = some (.slice e)) (hs : sizeOf1 P e = some z) (hc : n ≤ c) (hk : k (.slice A n n) w) : slcK P t (.slice A n c) none (some (.int .i64 n)) (some (.int .i64 n)) w k := by
  have he : P.elem t = e := by simp [Program.elem, ht]
  have ht' : P.underlying t = some (.slice (P.elem t)) := by rw [he]; exact ht
  have hsz : (sizeOf (P.elem t)).run P w = .ok z w := by
    rw [he]
    unfold sizeOf1 at hs
    cases hi' : P.info? e with
    | none => rw [hi'] at hs; cases hs
    | some i =>
      rw [hi'] at hs
      simp only [Option.map_some, Option.some.injEq] at hs
      simp [sizeOf, typeInfo, hi', hs]
  refine runK_of (v := .slice A n n) (w' := w) ?_ hk
  rw [run_sliceAt_slice w t _ _ _ _ ht', run_slice_hm w t A n c ht' .i64 .i64 n n (by omega) (by omega) (by omega), hsz]
  simp only [Result.andThen_ok, sliced, Int.toNat_natCast, Nat.sub_zero]
  congr 2
  split
  · rfl
  · cases A <;> simp [add_zero']
/-- A function value is called. -/
theorem fnK_eq {g : Nat} (h : hasBody P g = true) (first cap args : Array Value) (w : World) (k : Value → World → Prop) : fnK P (.func (.func g) first cap) args w k = callK P g (first ++ args ++ cap) w k := by
  show (hasBody P g = true ∧ _) = _
  simp [h]
attribute [go_sem] at_add add_zero' Nat.zero_add Nat.add_zero Nat.zero_mul List.getElem?_toArray List.length_cons List.length_nil allOne_nil allOne_cons Bool.and_true Bool.true_and List.append_toArray List.cons_append List.nil_append List.append_nil
attribute [go_sem] not_false_eq_true List.map_toArray List.map_cons List.map_nil Option.isSome_some Int.toNat_natCast Bool.not_true Bool.not_false Nat.mul_one decide_true decide_false Bool.false_eq_true List.getElem?_cons_zero List.getElem?_cons_succ Option.map_some Option.map_none
end Go.Proofs.Ytnoeeiaffnbhcaa.M
