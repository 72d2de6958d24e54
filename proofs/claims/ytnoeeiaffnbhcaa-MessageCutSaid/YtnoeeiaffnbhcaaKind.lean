/- Data of a kind as cells of memory: what a call reads, and rows that it builds. Conditions: those that each theorem names. -/
import Derived.Test.YtnoeeiaffnbhcaaMstr
import Derived.Lib.AppendStr
import Derived.ChangeShapes
namespace Go.Proofs.Ytnoeeiaffnbhcaa.M
open Go.RowKit
variable {P : Program}

/-- Nothing that stood is written. -/
abbrev Keep (w w' : World) : Prop := Fx (fun _ => False) w w'
theorem Keep.fx {w w' : World} (h : Keep w w') (m : Nat → Prop) : Fx m w w' := h.weaken (fun _ _ x => x.elim)
theorem Keep.rfl (w : World) : Keep w w := Fx.refl _ w
theorem Keep.tr {w w1 w2 : World} (h : Keep w w1) (h' : Keep w1 w2) : Keep w w2 := h.trans h' (fun _ _ x => x)
theorem Fx.keep {m : Nat → Prop} {w w1 w2 : World} (h : Fx m w w1) (h' : Keep w1 w2) : Fx m w w2 := h.trans h' (fun _ _ x => x.elim)
theorem Fx.tr {m : Nat → Prop} {w w1 w2 : World} (h : Fx m w w1) (h' : Fx m w1 w2) : Fx m w w2 := h.trans h' (fun _ _ x => x)
/-- What is written behind is new. -/
theorem Fx.new {m m' : Nat → Prop} {w w1 w2 : World} (h : Fx m w w1) (h' : Fx m' w1 w2) (hm : ∀ k, m' k → k < w.heap.size → m k) : Fx m w w2 := h.trans h' (fun k hk x => hm k x hk)
theorem add_add (a : Addr) (i j : Nat) : (a.add i).add j = a.add (i + j) := by
  unfold Addr.add
  by_cases h0 : i = 0
  · subst h0; simp
  · by_cases h1 : j = 0
    · subst h1; simp
    · rw [if_neg h0, if_neg h1, if_neg (by omega)]
      simp [Nat.add_assoc]
theorem add_block (a : Addr) (n : Nat) : (a.add n).block = a.block := by unfold Addr.add; split <;> rfl
theorem cell_ext {w w' : World} {a : Addr} (h : w'.heap[a.block]? = w.heap[a.block]?) : w'.cell? a = w.cell? a := by
  unfold World.cell?; rw [h]
theorem cell_lt {w : World} {a : Addr} {v : Value} (h : w.cell? a = some v) : a.block < w.heap.size := World.block_lt_of_cell? w _ h

/-- A kind of data: how many cells, and which. U: the blocks that it reaches. -/
structure Kind (α : Type) where
  sz : Nat
  rep : (Nat → Prop) → World → α → List Value → Prop
  len : ∀ {U w x cs}, rep U w x cs → cs.length = sz
  ext : ∀ {U : Nat → Prop} {w w' : World} {x cs}, rep U w x cs → (∀ k, U k → k < w.heap.size → w'.heap[k]? = w.heap[k]?) → rep U w' x cs
  mono : ∀ {U U' : Nat → Prop} {w : World} {x cs}, rep U w x cs → (∀ k, k < w.heap.size → U k → U' k) → rep U' w x cs
  one : ∀ {U w x cs}, rep U w x cs → ∀ v ∈ cs, v.oneCell' = true
theorem Kind.fx {α : Type} (K : Kind α) {U m : Nat → Prop} {w w' : World} {x : α} {cs : List Value} (h : K.rep U w x cs) (f : Fx m w w') (hn : ∀ k, U k → ¬ m k) : K.rep U w' x cs :=
  K.ext h fun k hk hlt => f.block k hlt (hn k hk)
theorem Kind.keep {α : Type} (K : Kind α) {U : Nat → Prop} {w w' : World} {x : α} {cs : List Value} (h : K.rep U w x cs) (f : Keep w w') : K.rep U w' x cs := K.fx h f (fun _ _ x => x)
/-- What it reaches is there. -/
theorem Kind.lt {α : Type} (K : Kind α) {U : Nat → Prop} {w : World} {x : α} {cs : List Value} (h : K.rep U w x cs) : K.rep (fun k => U k ∧ k < w.heap.size) w x cs := K.mono h fun _ hk hu => ⟨hu, hk⟩

def CellsAt (w : World) (ad : Addr) (cs : List Value) : Prop := ∀ (i : Nat) v, cs[i]? = some v → w.cell? (ad.add i) = some v
theorem CellsAt.ext {w w' : World} {ad : Addr} {cs : List Value} (h : CellsAt w ad cs) (hb : ad.block < w.heap.size → w'.heap[ad.block]? = w.heap[ad.block]?) : CellsAt w' ad cs := by
  intro i v hv
  have hc := h i v hv
  have hlt := cell_lt hc
  rw [add_block] at hlt
  have e : w'.cell? (ad.add i) = w.cell? (ad.add i) := cell_ext (by rw [add_block]; exact hb hlt)
  rw [e]; exact hc
theorem CellsAt.load {w : World} {ad : Addr} : ∀ {cs : List Value} {i : Nat}, CellsAt w (ad.add i) cs → cellsAt w ad i cs.length = some cs
  | [], _, _ => rfl
  | c :: cs, i, h => by
    have h0 := h 0 c rfl
    rw [add_add, Nat.add_zero] at h0
    have h1 : CellsAt w (ad.add (i + 1)) cs := by
      intro j v hv
      have := h (j + 1) v hv
      rw [add_add] at this ⊢
      rw [show i + 1 + j = i + (j + 1) by omega]; exact this
    show (match w.cell? (ad.add i), cellsAt w ad (i + 1) cs.length with
      | some v, some l => some (v :: l)
      | _, _ => none) = _
    rw [h0, CellsAt.load h1]
/-- A struct's value is loaded. -/
theorem ldV_agg {w : World} {t n : Nat} {ad : Addr} {cs : List Value} (hs : shapeOf P t = some (some n)) (hn : cs.length = n) (h : CellsAt w ad cs) : ldV P w t (.pointer (some ad)) = some (.agg cs.toArray) := by
  have h' : CellsAt w (ad.add 0) cs := by rw [add_zero']; exact h
  subst hn
  simp [ldV, hs, CellsAt.load h']
theorem CellsAt.drop {w : World} {ad : Addr} {cs : List Value} (h : CellsAt w ad cs) (n : Nat) : CellsAt w (ad.add n) (cs.drop n) := by
  intro i v hv
  rw [List.getElem?_drop] at hv
  rw [add_add]
  exact h _ v hv
theorem CellsAt.left {w : World} {ad : Addr} {cs ds : List Value} (h : CellsAt w ad (cs ++ ds)) : CellsAt w ad cs := by
  intro i v hv
  refine h i v ?_
  rw [List.getElem?_append_left (List.getElem?_eq_some_iff.1 hv).1]
  exact hv
theorem Blk.cells {w : World} {g : Nat} {t : TypeId} {cs : Array Value} (h : Blk w g t cs) : CellsAt w ⟨g, 0, none⟩ cs.toList := by
  intro i v hv
  have : (⟨g, 0, none⟩ : Addr).add i = ⟨g, i, none⟩ := by unfold Addr.add; split <;> simp_all
  rw [this, h.cell]
  simpa using hv

/-! ### kinds -/
def Kind.int (kd : IntKind) : Kind Int where
  sz := 1
  rep _ _ x cs := cs = [.int kd x] ∧ (Lit.int kd x).wf = true
  len h := by rw [h.1]; rfl
  ext h _ := h
  mono h _ := h
  one h := by rw [h.1]; simp [Value.oneCell']
def Kind.bool : Kind Bool where
  sz := 1
  rep _ _ x cs := cs = [.bool x]
  len h := by rw [h]; rfl
  ext h _ := h
  mono h _ := h
  one h := by rw [h]; simp [Value.oneCell']
def Kind.str : Kind ByteArray where
  sz := 1
  rep _ _ x cs := cs = [.string x] ∧ x.size ≤ maxLen
  len h := by rw [h.1]; rfl
  ext h _ := h
  mono h _ := h
  one h := by rw [h.1]; simp [Value.oneCell']
/-- The elements of a slice. -/
def Elems {α : Type} (K : Kind α) (U : Nat → Prop) (w : World) (A : Option Addr) (xs : List α) : Prop :=
  ∀ (j : Nat) x, xs[j]? = some x → ∃ ad, A = some ad ∧ U ad.block ∧ ∃ vs, K.rep U w x vs ∧ CellsAt w (ad.add (j * K.sz)) vs
theorem Elems.ext {α : Type} {K : Kind α} {U : Nat → Prop} {w w' : World} {A : Option Addr} {xs : List α} (h : Elems K U w A xs) (hb : ∀ k, U k → k < w.heap.size → w'.heap[k]? = w.heap[k]?) : Elems K U w' A xs := by
  intro j x hx
  obtain ⟨ad, hA, hU, vs, hr, hc⟩ := h j x hx
  exact ⟨ad, hA, hU, vs, K.ext hr hb, hc.ext fun hlt => by rw [add_block] at hlt ⊢; exact hb _ hU hlt⟩
theorem Elems.fx {α : Type} {K : Kind α} {U m : Nat → Prop} {w w' : World} {A : Option Addr} {xs : List α} (h : Elems K U w A xs) (f : Fx m w w') (hn : ∀ k, U k → ¬ m k) : Elems K U w' A xs :=
  h.ext fun k hk hlt => f.block k hlt (hn k hk)
theorem Elems.keep {α : Type} {K : Kind α} {U : Nat → Prop} {w w' : World} {A : Option Addr} {xs : List α} (h : Elems K U w A xs) (f : Keep w w') : Elems K U w' A xs := h.fx f (fun _ _ x => x)
theorem Elems.nil {α : Type} (K : Kind α) (U : Nat → Prop) (w : World) (A : Option Addr) : Elems K U w A [] := fun j x hx => by simp at hx

/-- Of what the elements of a slice reach, and where they stand, just what is there matters. -/
theorem Elems.mono {α : Type} {K : Kind α} (hz : 0 < K.sz) {U U' : Nat → Prop} {w : World} {A : Option Addr} {xs : List α} (h : Elems K U w A xs) (hb : ∀ k, k < w.heap.size → U k → U' k) : Elems K U' w A xs := by
  intro j x hx
  obtain ⟨ad, hA, hU, vs, hr, hc⟩ := h j x hx
  have hl := K.len hr
  have : ad.block < w.heap.size := by
    cases vs with
    | nil => simp at hl; omega
    | cons v vs =>
      have := cell_lt (hc 0 v rfl)
      rwa [add_block, add_block] at this
  exact ⟨ad, hA, hb _ this hU, vs, K.mono hr hb, hc⟩
def Kind.list {α : Type} (K : Kind α) (hz : 0 < K.sz) : Kind (List α) where
  sz := 1
  rep U w xs cs := ∃ A c, cs = [.slice A xs.length c] ∧ xs.length ≤ c ∧ c ≤ maxLen ∧ Elems K U w A xs
  len h := by obtain ⟨A, c, rfl, _⟩ := h; rfl
  ext h hb := by
    obtain ⟨A, c, e, h1, h2, h3⟩ := h
    exact ⟨A, c, e, h1, h2, h3.ext hb⟩
  mono h hb := by
    obtain ⟨A, c, e, h1, h2, h3⟩ := h
    exact ⟨A, c, e, h1, h2, h3.mono hz hb⟩
  one h := by obtain ⟨A, c, rfl, _⟩ := h; simp [Value.oneCell']
def Kind.pair {α β : Type} (K : Kind α) (L : Kind β) : Kind (α × β) where
  sz := K.sz + L.sz
  rep U w x cs := ∃ c1 c2, cs = c1 ++ c2 ∧ K.rep U w x.1 c1 ∧ L.rep U w x.2 c2
  len h := by obtain ⟨c1, c2, rfl, h1, h2⟩ := h; rw [List.length_append, K.len h1, L.len h2]
  ext h hb := by obtain ⟨c1, c2, e, h1, h2⟩ := h; exact ⟨c1, c2, e, K.ext h1 hb, L.ext h2 hb⟩
  mono h hb := by obtain ⟨c1, c2, e, h1, h2⟩ := h; exact ⟨c1, c2, e, K.mono h1 hb, L.mono h2 hb⟩
  one h v hv := by
    obtain ⟨c1, c2, rfl, h1, h2⟩ := h
    rcases List.mem_append.1 hv with hv | hv
    · exact K.one h1 v hv
    · exact L.one h2 v hv
def Kind.of {α β : Type} (f : β → α) (K : Kind α) : Kind β where
  sz := K.sz
  rep U w x cs := K.rep U w (f x) cs
  len h := K.len h
  ext h hb := K.ext h hb
  mono h hb := K.mono h hb
  one h := K.one h

/-! ### what a call reads of its arguments -/
/-- What is read of type t is of the kind K. -/
def Opens {α : Type} (P : Program) (K : Kind α) (t : TypeId) : Prop := ∀ {H : Type} (enc : TypeId × Value → H) (w : World) (base : Nat) (held : Bool) (fuel : Nat) (cs : List Value) (x : DataW H × List MemPlace),
  DataW.trod enc P w base (fun _ => true) held fuel t cs = some x → ∃ a, K.rep (fun k => k < w.heap.size) w a cs
theorem opens_int {t : TypeId} {kd : IntKind} (ht : P.underlying t = some (.int kd)) : Opens P (Kind.int kd) t := by
  intro H enc w base held fuel cs x h
  obtain ⟨n, rfl, _, hw⟩ := DataW.trod_int ht h
  exact ⟨n, rfl, hw⟩
theorem opens_bool {t : TypeId} (ht : P.underlying t = some .bool) : Opens P Kind.bool t := by
  intro H enc w base held fuel cs x h
  obtain ⟨b, rfl, _⟩ := DataW.trod_bool ht h
  exact ⟨b, rfl⟩
theorem opens_str {t : TypeId} (ht : P.underlying t = some .string) : Opens P Kind.str t := by
  intro H enc w base held fuel cs x h
  obtain ⟨s, rfl, _, hs⟩ := DataW.trod_string ht h
  exact ⟨s, rfl, hs⟩
theorem cellsAt_of {w : World} {base n : Nat} {a : Addr} {cs : List Value} (h : w.cells? base a n = some cs) : cs.length = n ∧ CellsAt w a cs := by
  obtain ⟨_, hl, hc⟩ := World.cells?_some h
  refine ⟨hl, fun i v hv => ?_⟩
  rw [hc i (by have := (List.getElem?_eq_some_iff.1 hv).1; omega)]
  exact hv
theorem list_of {α : Type} {p : Nat → α → Prop} : ∀ (len : Nat), (∀ i, i < len → ∃ y, p i y) → ∃ ys : List α, ys.length = len ∧ ∀ i y, ys[i]? = some y → p i y
  | 0, _ => ⟨[], rfl, fun i y hy => by simp at hy⟩
  | len + 1, each => by
    obtain ⟨ys, h1, h2⟩ := list_of len (fun i hi => each i (by omega))
    obtain ⟨y, hy⟩ := each len (by omega)
    refine ⟨ys ++ [y], by simp [h1], fun i z hz => ?_⟩
    rw [List.getElem?_append] at hz
    split at hz
    · exact h2 i z hz
    · rename_i hge
      have : i = len := by
        have := (List.getElem?_eq_some_iff.1 hz).1
        simp at this; omega
      subst this
      rw [h1, Nat.sub_self] at hz
      cases hz
      exact hy
theorem opens_list {α : Type} {K : Kind α} {t e : TypeId} (hz : 0 < K.sz) (ht : P.underlying t = some (.slice e)) (hc : P.cellsOf e = K.sz) (hK : Opens P K e) : Opens P (Kind.list K hz) t := by
  intro H enc w base held fuel cs x h
  rcases DataW.trod_slice ht h with ⟨rfl, _⟩ | ⟨a, len, cap, elems, rest, n, _, rfl, _, _, hlc, hm, hel, hall, _⟩
  · exact ⟨[], none, 0, rfl, Nat.le_refl _, Nat.zero_le _, Elems.nil _ _ _ _⟩
  · have each : ∀ i, i < len → ∃ y : α, ∃ vs, K.rep (fun k => k < w.heap.size) w y vs ∧ CellsAt w (a.add (i * K.sz)) vs := by
      intro i hi
      have h1 := hall i hi
      rw [List.getElem?_eq_getElem (by omega)] at h1
      cases hcs : w.cells? base (a.add (i * P.cellsOf e)) (P.cellsOf e) with
      | none => rw [hcs] at h1; cases h1
      | some vs =>
        rw [hcs] at h1
        obtain ⟨y', hr⟩ := hK enc w base held _ vs _ h1
        rw [hc] at hcs
        exact ⟨y', vs, hr, (cellsAt_of hcs).2⟩
    obtain ⟨ys, hyl, hys⟩ := list_of len each
    subst hyl
    refine ⟨ys, some a, cap, rfl, hlc, hm, fun j y hy => ?_⟩
    obtain ⟨vs, hr, hcv⟩ := hys j y hy
    refine ⟨a, rfl, ?_, vs, hr, hcv⟩
    have hl := K.len hr
    cases vs with
    | nil => simp at hl; omega
    | cons v vs =>
      have := cell_lt (hcv 0 v rfl)
      rwa [add_block, add_block] at this
/-- Fields, from the offset o on. -/
def OpensF {α : Type} (P : Program) (K : Kind α) (l : List (TypeId × Nat)) (o : Nat) : Prop := ∀ {H : Type} (enc : TypeId × Value → H) (w : World) (base : Nat) (held : Bool) (fuel : Nat) (cs : List Value),
  (∀ p ∈ l, ∃ x, DataW.trod enc P w base (fun _ => true) held fuel p.1 ((cs.drop p.2).take (P.cellsOf p.1)) = some x) → ∃ a, K.rep (fun k => k < w.heap.size) w a ((cs.drop o).take K.sz)
theorem opensF_last {α : Type} {K : Kind α} {t o : Nat} (h : Opens P K t) (hc : P.cellsOf t = K.sz) : OpensF P K [(t, o)] o := by
  intro H enc w base held fuel cs hx
  obtain ⟨x, hx⟩ := hx (t, o) (by simp)
  simp only at hx
  rw [hc] at hx
  exact h enc w base held fuel _ x hx
theorem opensF_pair {α β : Type} {K : Kind α} {L : Kind β} {t o : Nat} {l : List (TypeId × Nat)} (h : Opens P K t) (hc : P.cellsOf t = K.sz) (h' : OpensF P L l (o + K.sz)) : OpensF P (K.pair L) ((t, o) :: l) o := by
  intro H enc w base held fuel cs hx
  obtain ⟨x, h1⟩ := hx (t, o) (List.mem_cons_self ..)
  simp only at h1
  rw [hc] at h1
  obtain ⟨a, ha⟩ := h enc w base held fuel _ x h1
  obtain ⟨b, hb⟩ := h' enc w base held fuel cs (fun p hp => hx p (List.mem_cons_of_mem _ hp))
  refine ⟨(a, b), _, _, ?_, ha, hb⟩
  show (cs.drop o).take (K.sz + L.sz) = _
  rw [List.take_add, List.drop_drop]
theorem opens_struct {α : Type} {K : Kind α} {t : TypeId} {fs : Array Field} {l : List (TypeId × Nat)} (ht : P.underlying t = some (.struct fs)) (hl : fs.toList.map (fun f => (f.type, f.offset)) = l) (hc : P.cellsOf t = K.sz) (h : OpensF P K l 0) : Opens P K t := by
  intro H enc w base held fuel cs x hx
  obtain ⟨xs, n, _, _, hcl, hxl, hall⟩ := DataW.trod_struct ht hx
  have := h enc w base held n cs (fun p hp => by
    rw [← hl] at hp
    obtain ⟨f, hf, rfl⟩ := List.mem_map.1 hp
    obtain ⟨i, hi, e⟩ := List.mem_iff_getElem.1 hf
    have h1 := hall i f (by rw [← Array.getElem?_toList, List.getElem?_eq_getElem hi, e])
    rw [h1]
    rw [List.getElem?_eq_getElem (by rw [hxl]; simpa using hi)]
    exact ⟨_, rfl⟩)
  rw [List.drop_zero, List.take_of_length_le (by omega)] at this
  exact this
theorem opens_of {α β : Type} {K : Kind α} {t : TypeId} (f : β → α) (g : α → β) (hfg : ∀ a, f (g a) = a) (h : Opens P K t) : Opens P (K.of f) t := by
  intro H enc w base held fuel cs x hx
  obtain ⟨a, ha⟩ := h enc w base held fuel cs x hx
  exact ⟨g a, by show K.rep _ w (f (g a)) cs; rw [hfg]; exact ha⟩
end Go.Proofs.Ytnoeeiaffnbhcaa.M
