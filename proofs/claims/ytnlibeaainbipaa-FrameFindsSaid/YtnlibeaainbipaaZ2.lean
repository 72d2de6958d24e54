/- Blocks of memory, and what a call leaves as it was. Conditions: none beyond those that each theorem names. -/
import Derived.Test.YtnlibeaainbipaaZ1
import Derived.Below
import Derived.Laws.BytesArg
import Derived.Lib.ConvBytes
import Derived.Lib.AppendStr
import Derived.ChangeShapes
namespace Go.Proofs.Ytnlibeaainbipaa.M
open Go.RowKit
variable {P : Program}

theorem stCells_one {w : World} {a : Addr} {v : Value} (hc : (w.cell? a).isSome = true) (hf : w.frozen? a = false) (h1 : v.oneCell' = true) : stCells w a 0 [v] = some (w.setCell a v) := by
  have e : a.add 0 = a := by simp [Addr.add]
  simp [stCells, e, hc, hf, h1]
theorem cells_one {v : Value} (h : v.oneCell' = true) : v.cells = #[v] := by
  cases v <;> first | rfl | (cases h; done)
theorem stV_one {w : World} {t : TypeId} (a : Addr) (v : Value) (hz : sizeOf1 P t = some 1) (hc : (w.cell? a).isSome = true) (hf : w.frozen? a = false) (h1 : v.oneCell' = true) : stV P w t (.pointer (some a)) v = some (w.setCell a v) := by
  have e := cells_one h1
  show (if sizeOf1 P t = some v.cells.size then stCells w a 0 v.cells.toList else none) = _
  rw [e, if_pos (by rw [hz]; rfl)]
  exact stCells_one hc hf h1
@[go_sem] theorem one_int (k : IntKind) (n : Int) : (Value.int k n).oneCell' = true := rfl
@[go_sem] theorem one_bool (b : Bool) : (Value.bool b).oneCell' = true := rfl
@[go_sem] theorem one_str (b : ByteArray) : (Value.string b).oneCell' = true := rfl
@[go_sem] theorem one_ptr (a : Option Addr) : (Value.pointer a).oneCell' = true := rfl
@[go_sem] theorem one_slice (a : Option Addr) (n c : Nat) : (Value.slice a n c).oneCell' = true := rfl
@[go_sem] theorem one_func (f : Fn) (a b : Array Value) : (Value.func f a b).oneCell' = true := rfl

/-- The cells of a block that may be written. -/
def Blk (w : World) (g : Nat) (t : TypeId) (cs : Array Value) : Prop := w.heap[g]? = some (.cells cs t (0, 0))
theorem Blk.cell {w : World} {g : Nat} {t : TypeId} {cs : Array Value} (h : Blk w g t cs) (i : Nat) : w.cell? ⟨g, i, none⟩ = cs[i]? := by
  simp [World.cell?, show w.heap[g]? = _ from h]
theorem Blk.frozen {w : World} {g : Nat} {t : TypeId} {cs : Array Value} (h : Blk w g t cs) (i : Nat) : w.frozen? ⟨g, i, none⟩ = false := by
  simp [World.frozen?, show w.heap[g]? = _ from h]
theorem Blk.lt {w : World} {g : Nat} {t : TypeId} {cs : Array Value} (h : Blk w g t cs) : g < w.heap.size := (Array.getElem?_eq_some_iff.1 h).1
theorem Blk.set {w : World} {g : Nat} {t : TypeId} {cs : Array Value} (h : Blk w g t cs) (i : Nat) (v : Value) : Blk (w.setCell ⟨g, i, none⟩ v) g t (cs.setIfInBounds i v) := by
  unfold Blk World.setCell
  have h' : w.heap[g]? = _ := h
  simp [Array.getElem?_modify, h']
theorem Blk.set_ne {w : World} {g g' : Nat} {t : TypeId} {cs : Array Value} (h : Blk w g t cs) (hne : g' ≠ g) (i : Nat) (v : Value) : Blk (w.setCell ⟨g', i, none⟩ v) g t cs := by
  unfold Blk World.setCell
  have h' : w.heap[g]? = _ := h
  simp [Array.getElem?_modify, hne, h']
theorem Blk.new (w : World) (t : TypeId) (cs : Array Value) : Blk (w.alloc (.cells cs t)) w.heap.size t cs := by
  unfold Blk World.alloc
  simp
theorem Blk.alloc {w : World} {g : Nat} {t : TypeId} {cs : Array Value} (h : Blk w g t cs) (o : Obj) : Blk (w.alloc o) g t cs := by
  have := h.lt
  unfold Blk World.alloc at *
  rw [Array.getElem?_push, if_neg (by omega)]
  exact h
theorem Blk.drew {w : World} {g : Nat} {t : TypeId} {cs : Array Value} (h : Blk w g t cs) : Blk w.drew g t cs := h

/-- What is not in m stands as it stood. -/
structure Fx (m : Nat → Prop) (w w' : World) : Prop where
  os : w'.os = w.os
  tape : w'.tape = w.tape
  output : w'.output = w.output
  size : w.heap.size ≤ w'.heap.size
  block : ∀ k, k < w.heap.size → ¬ m k → w'.heap[k]? = w.heap[k]?
theorem Fx.refl (m : Nat → Prop) (w : World) : Fx m w w := ⟨rfl, rfl, rfl, Nat.le_refl _, fun _ _ _ => rfl⟩
/-- What the second call may write is what the first may, or new. -/
theorem Fx.trans {m m' : Nat → Prop} {w w1 w2 : World} (h : Fx m w w1) (h' : Fx m' w1 w2) (hm : ∀ k, k < w.heap.size → m' k → m k) : Fx m w w2 :=
  ⟨h'.os.trans h.os, h'.tape.trans h.tape, h'.output.trans h.output, Nat.le_trans h.size h'.size, fun k hk hn => (h'.block k (Nat.lt_of_lt_of_le hk h.size) (fun hx => hn (hm k hk hx))).trans (h.block k hk hn)⟩
theorem Fx.weaken {m m' : Nat → Prop} {w w' : World} (h : Fx m w w') (hm : ∀ k, k < w.heap.size → m k → m' k) : Fx m' w w' :=
  ⟨h.os, h.tape, h.output, h.size, fun k hk hn => h.block k hk (fun hx => hn (hm k hk hx))⟩
theorem Fx.alloc (m : Nat → Prop) (w : World) (o : Obj) : Fx m w (w.alloc o) := ⟨rfl, rfl, rfl, by show w.heap.size ≤ (w.heap.push o).size; simp, fun k hk _ => by
  show (w.heap.push o)[k]? = _
  rw [Array.getElem?_push, if_neg (by omega)]⟩
theorem Fx.drew (m : Nat → Prop) (w : World) : Fx m w w.drew := ⟨rfl, rfl, rfl, Nat.le_refl _, fun _ _ _ => rfl⟩
theorem Fx.set {m : Nat → Prop} (w : World) (a : Addr) (v : Value) (hm : m a.block) : Fx m w (w.setCell a v) :=
  ⟨rfl, rfl, rfl, by simp [World.setCell], fun k _ hn => by
    have : a.block ≠ k := fun e => hn (e ▸ hm)
    simp [World.setCell, Array.getElem?_modify, this]⟩
theorem Fx.blk {m : Nat → Prop} {w w' : World} (h : Fx m w w') {g : Nat} {t : TypeId} {cs : Array Value} (hb : Blk w g t cs) (hn : ¬ m g) : Blk w' g t cs := (h.block g hb.lt hn).trans hb
theorem Fx.below {w w' : World} (h : Fx (fun _ => False) w w') : Below w.heap.size w w' := ⟨h.os, h.tape, h.output, h.size, fun k hk => h.block k hk (fun x => x)⟩
theorem Fx.belowB {m : Nat → Prop} {B : Nat} {w0 w w' : World} (h0 : Below B w0 w) (h : Fx m w w') (hB : B ≤ w.heap.size) (hm : ∀ k, k < B → ¬ m k) : Below B w0 w' :=
  ⟨h.os.trans h0.os, h.tape.trans h0.tape, h.output.trans h0.output, Nat.le_trans h0.size h.size, fun k hk => (h.block k (Nat.lt_of_lt_of_le hk hB) (hm k hk)).trans (h0.block k hk)⟩
theorem Fx.of_below {m : Nat → Prop} {w w' : World} (h : Below w.heap.size w w') : Fx m w w' := ⟨h.os, h.tape, h.output, h.size, fun k hk _ => h.block k hk⟩
theorem Fx.of_grown {w w' : World} {r : Option Nat} (h : w.grownBy w' r) : Fx (fun k => some k = r) w w' := ⟨h.os, h.tape, h.output, h.size, fun k hk hn => h.block k hk hn⟩
end Go.Proofs.Ytnlibeaainbipaa.M

/- Rows of whole numbers that a call reads, or owns: building, appending, cutting. Conditions: those that each theorem names. -/
namespace Go.Proofs.Ytnlibeaainbipaa.M
open Go.RowKit
variable {P : Program}

/-- A slice's places hold these numbers. -/
def RdI (w : World) (kd : IntKind) (A : Option Addr) (xs : List Int) : Prop := ∀ j x, xs[j]? = some x → ∃ ad, A = some ad ∧ w.cell? (ad.add j) = some (.int kd x)
/-- A slice of the call's own. -/
def OwnI (e : TypeId) (kd : IntKind) (b : Nat) (w : World) (v : Value) (xs : List Int) : Prop := w.ownsRow b e 1 v xs.length (xs.map (Value.int kd))
/-- The types of such a slice. -/
def IE (P : Program) (t e : TypeId) (kd : IntKind) (by_ : Nat) : Prop := P.underlying t = some (.slice e) ∧ (P.info? e).map (fun i => (i.zero, i.size, i.bytes)) = some (some (.int kd 0), 1, by_)

theorem OwnI.nil (e : TypeId) (kd : IntKind) (b : Nat) (w : World) : OwnI e kd b w (.slice none 0 0) [] := ⟨rfl, .inl ⟨rfl, rfl⟩⟩
theorem OwnI.slice {e : TypeId} {kd : IntKind} {b : Nat} {w : World} {v : Value} {xs : List Int} (h : OwnI e kd b w v xs) : ∃ A c, v = .slice A xs.length c ∧ xs.length ≤ c ∧ RdI w kd A xs := by
  rcases h.2 with ⟨hv, hn⟩ | ⟨g, cap, cur, hv, hb, hg, hc, hm, hs, ht⟩
  · have : xs = [] := List.eq_nil_of_length_eq_zero hn
    subst this
    exact ⟨none, 0, hv, Nat.le_refl _, fun j x hx => by simp at hx⟩
  · refine ⟨some ⟨g, 0, none⟩, cap, hv, hc, fun j x hx => ⟨_, rfl, ?_⟩⟩
    exact World.ownsRow.cells h (g := g) (by rw [hv]; rfl) j _ (by rw [List.getElem?_map, hx]; rfl)
theorem OwnI.lt {e : TypeId} {kd : IntKind} {b : Nat} {w : World} {v : Value} {xs : List Int} (h : OwnI e kd b w v xs) {k : Nat} (hk : some k = v.ownBlock) : b ≤ k ∧ k < w.heap.size := World.ownsRow.lt h k hk.symm
theorem OwnI.fx {e : TypeId} {kd : IntKind} {b : Nat} {m : Nat → Prop} {w w' : World} {v : Value} {xs : List Int} (h : OwnI e kd b w v xs) (hf : Fx m w w') (hn : ∀ k, some k = v.ownBlock → ¬ m k) : OwnI e kd b w' v xs := by
  refine ⟨h.1, ?_⟩
  rcases h.2 with hv | ⟨g, cap, cur, hv, hb, hg, r⟩
  · exact .inl hv
  · refine .inr ⟨g, cap, cur, hv, hb, ?_, r⟩
    rw [hf.block g (Array.getElem?_eq_some_iff.1 hg).1 (hn g (by rw [hv]; rfl))]
    exact hg
theorem RdI.fx {kd : IntKind} {m : Nat → Prop} {w w' : World} {A : Option Addr} {xs : List Int} (h : RdI w kd A xs) (hf : Fx m w w') (hn : ∀ ad, A = some ad → ¬ m ad.block) : RdI w' kd A xs := by
  intro j x hx
  obtain ⟨ad, e, hc⟩ := h j x hx
  refine ⟨ad, e, ?_⟩
  have hb : (ad.add j).block = ad.block := by unfold Addr.add; split <;> rfl
  have hlt := World.block_lt_of_cell? w _ hc
  rw [hb] at hlt
  have := hf.block ad.block hlt (hn ad e)
  unfold World.cell? at hc ⊢
  rw [hb] at hc ⊢
  rw [this]
  exact hc
theorem RdI.below {kd : IntKind} {w w' : World} {A : Option Addr} {xs : List Int} (h : RdI w kd A xs) (hf : Below w.heap.size w w') : RdI w' kd A xs := h.fx (Fx.of_below (m := fun _ => False) hf) (fun _ _ x => x)
theorem RdI.take {kd : IntKind} {w : World} {A : Option Addr} {xs : List Int} (h : RdI w kd A xs) (n : Nat) : RdI w kd A (xs.take n) := by
  intro j x hx
  rw [List.getElem?_take] at hx
  split at hx
  · exact h j x hx
  · cases hx
theorem RdI.drop {kd : IntKind} {w : World} {A : Option Addr} {xs : List Int} (h : RdI w kd A xs) (n : Nat) {A' : Option Addr} (hA : n < xs.length → A' = A.map (·.add n)) : RdI w kd A' (xs.drop n) := by
  intro j x hx
  rw [List.getElem?_drop] at hx
  obtain ⟨ad, e, hc⟩ := h _ x hx
  have hlt : n < xs.length := by have := (List.getElem?_eq_some_iff.1 hx).1; omega
  refine ⟨ad.add n, by rw [hA hlt, e]; rfl, ?_⟩
  have : (ad.add n).add j = ad.add (n + j) := by
    unfold Addr.add
    by_cases h0 : n = 0
    · subst h0; simp
    · by_cases h1 : j = 0
      · subst h1; simp
      · rw [if_neg h0, if_neg h1, if_neg (by omega)]
        simp [Nat.add_assoc]
  rw [this]; exact hc

theorem RdI.new (w : World) (e : TypeId) (kd : IntKind) (xs : List Int) : RdI (w.alloc (.cells (xs.map (Value.int kd)).toArray e)) kd (some ⟨w.heap.size, 0, none⟩) xs := by
  intro j x hx
  refine ⟨_, rfl, ?_⟩
  have : (⟨w.heap.size, 0, none⟩ : Addr).add j = ⟨w.heap.size, j, none⟩ := by unfold Addr.add; split <;> simp_all
  rw [this, (Blk.new w e _).cell]
  simp [hx]

theorem size_alloc (w : World) (o : Obj) : (w.alloc o).heap.size = w.heap.size + 1 := by show (w.heap.push o).size = _; simp
theorem OwnI.alloc {e : TypeId} {kd : IntKind} {b : Nat} {w : World} {v : Value} {xs : List Int} (h : OwnI e kd b w v xs) (o : Obj) : OwnI e kd b (w.alloc o) v xs := h.fx (Fx.alloc (fun _ => False) _ _) (fun _ _ x => x)
theorem Fx.then_alloc {m : Nat → Prop} {w w' : World} (h : Fx m w w') (o : Obj) : Fx m w (w'.alloc o) := h.trans (Fx.alloc m w' o) (fun _ _ x => x)
/-- What was written is a row of the call's own. -/
theorem Fx.then_own {m : Nat → Prop} {e : TypeId} {kd : IntKind} {w w1 w2 : World} {v : Value} {xs : List Int} (h : Fx m w w1) (ho : OwnI e kd w.heap.size w1 v xs) (h' : Fx (fun k => some k = v.ownBlock) w1 w2) : Fx m w w2 :=
  h.trans h' (fun k hk hm => by have := (ho.lt hm).1; omega)

theorem OwnI.new (w : World) (e : TypeId) (kd : IntKind) (xs : List Int) {b : Nat} (hb : b ≤ w.heap.size) (hl : xs.length ≤ 140737488355328) : OwnI e kd b (w.alloc (.cells (xs.map (Value.int kd)).toArray e)) (.slice (some ⟨w.heap.size, 0, none⟩) xs.length xs.length) xs := by
  refine ⟨by simp, .inr ⟨w.heap.size, xs.length, _, rfl, hb, Blk.new w e _, Nat.le_refl _, by simp only [maxLen]; omega, by simp, by
    rw [Nat.mul_one, List.take_of_length_le (by simp)]⟩⟩
theorem OwnI.lower {e : TypeId} {kd : IntKind} {b b' : Nat} {w : World} {v : Value} {xs : List Int} (h : OwnI e kd b w v xs) (hb : b' ≤ b) : OwnI e kd b' w v xs := by
  refine ⟨h.1, ?_⟩
  rcases h.2 with hv | ⟨g, cap, cur, hv, hg, r⟩
  · exact .inl hv
  · exact .inr ⟨g, cap, cur, hv, Nat.le_trans hb hg, r⟩

/-! ### append -/
theorem append_nil_run {t e ty : TypeId} {kd : IntKind} {by_ b : Nat} {w : World} {v : Value} {xs : List Int} (hT : IE P t e kd by_) (h : OwnI e kd b w v xs) (c : Nat) : (Builtin.append_ #[t, t] ty #[v, .slice none 0 c]).run P w = .ok v w := by
  obtain ⟨A, cap, rfl, hc, _⟩ := h.slice
  obtain ⟨ht, hi⟩ := hT
  cases hinfo : P.info? e with
  | none => rw [hinfo] at hi; cases hi
  | some i =>
    cases A <;> simp [Builtin.append_, run_underlying ht, sizeOf, typeInfo, hinfo, Builtin.lenOf, hc, Builtin.firstCells, storeCells]

theorem append_own {t e ty : TypeId} {kd : IntKind} {by_ b : Nat} {w : World} {v : Value} {xs ys : List Int} {A : Option Addr} {c : Nat} {k : Value → World → Prop} (hT : IE P t e kd by_) (hb0 : 0 < by_) (h : OwnI e kd b w v xs) (hr : RdI w kd A ys)
    (hlen : (xs.length + ys.length) * by_ ≤ 140737488355328) (hb : b ≤ w.heap.size)
    (hk : ∀ v' w', OwnI e kd b w' v' (xs ++ ys) → Fx (fun k => some k = v.ownBlock) w w' → (v'.ownBlock = v.ownBlock ∨ v'.ownBlock = some w.heap.size) → k v' w') : appK P #[t, t] ty #[v, .slice A ys.length c] w k := by
  cases A with
  | none =>
    have : ys = [] := by
      cases ys with
      | nil => rfl
      | cons y ys =>
        obtain ⟨ad, e, _⟩ := hr 0 y rfl
        cases e
    subst this
    rw [List.append_nil] at hk
    exact runK_of (append_nil_run hT h c) (hk v w h (Fx.refl _ _) (.inl rfl))
  | some ad =>
    obtain ⟨ht, hi⟩ := hT
    cases hinfo : P.info? e with
    | none => rw [hinfo] at hi; cases hi
    | some i =>
      rw [hinfo] at hi
      simp only [Option.map_some, Option.some.injEq, Prod.mk.injEq] at hi
      obtain ⟨hz, hs, hby⟩ := hi
      have hle : xs.length + ys.length ≤ 140737488355328 := Nat.le_trans (Nat.le_mul_of_pos_right _ hb0) hlen
      obtain ⟨v', w', hrun, hown, hg, _, hat⟩ := run_append_own_at (P := P) w b t ty e i (.int kd 0) 1 by_ ht hinfo hz hs hby rfl (by decide) v xs.length (xs.map (Value.int kd)) h ad ys.length c (ys.map (Value.int kd)) (by simp)
        (fun j u hu => by
          rw [List.getElem?_map] at hu
          cases hx : ys[j]? with
          | none => rw [hx] at hu; cases hu
          | some x =>
            rw [hx] at hu
            cases hu
            obtain ⟨ad', e, hc⟩ := hr j x hx
            cases e
            exact hc)
        (fun u hu => by obtain ⟨x, _, rfl⟩ := List.mem_map.1 hu; rfl) (by simp only [maxLen]; omega) hlen hb
      exact runK_of hrun (hk v' w' (by unfold OwnI; rw [List.length_append, List.map_append]; exact hown) ⟨hg.os, hg.tape, hg.output, hg.size, fun k hk hn => hg.block k hk hn⟩ hat)

/-! ### a slice written out -/
theorem bsl_one {t e : TypeId} {kd : IntKind} {by_ : Nat} {w : World} {x : Int} {k : Value → World → Prop} (hT : IE P t e kd by_) (hk : k (.slice (some ⟨w.heap.size, 0, none⟩) 1 1) (w.alloc (.cells #[.int kd x] e))) : bslK P t 1 #[(0, .int kd x)] w k := by
  obtain ⟨ht, hi⟩ := hT
  cases hinfo : P.info? e with
  | none => rw [hinfo] at hi; cases hi
  | some i =>
    rw [hinfo] at hi
    simp only [Option.map_some, Option.some.injEq, Prod.mk.injEq] at hi
    obtain ⟨hz, hs, hby⟩ := hi
    refine runK_of ?_ hk
    simp [Instr.buildSlice, run_underlying ht, sizeOf, typeInfo, hinfo, hs, zeroValue, hz, Instr.fill, Value.cells, newRow, newObj, go_sem]
    rfl
end Go.Proofs.Ytnlibeaainbipaa.M

/- Bytes that a call reads, as a string; a slice cut short. Conditions: the slice's places hold the numbers. -/
namespace Go.Proofs.Ytnlibeaainbipaa.M
open Go.RowKit
variable {P : Program}

/-- The types of a slice of bytes and of a string. -/
def BS (P : Program) (s e t : TypeId) : Prop := P.underlying s = some (.slice e) ∧ P.underlying e = some (.int .u8) ∧ P.underlying t = some .string

theorem cv_bytes {s e t : TypeId} {w : World} {A : Option Addr} {xs : List Int} {c : Nat} {k : Value → World → Prop} (hT : BS P s e t) (hr : RdI w .u8 A xs) (hk : k (.string (strOfNums xs)) w) : cvK P s t (.slice A xs.length c) w k := by
  obtain ⟨hs, he, ht⟩ := hT
  have e1 : cvK P s t (.slice A xs.length c) w k = runK P (convert s t (.slice A xs.length c)) w k := by simp [cvK, hs, ht]
  rw [e1]
  refine runK_of ?_ hk
  rw [run_convert_bytes_string w s t e A xs.length c hs he ht]
  cases A with
  | none =>
    have : xs = [] := by
      cases xs with
      | nil => rfl
      | cons y ys =>
        obtain ⟨ad, e, _⟩ := hr 0 y rfl
        cases e
    subst this
    simp [Conv.bytesToString, strOfNums]
    rfl
  | some ad =>
    have hl : (loadCells ad xs.length).run P w = .ok (xs.map (Value.int .u8)).toArray w := by
      have := run_loadCells_list (P := P) w ad (xs.map (Value.int .u8)) (fun j v hj => by
        rw [List.getElem?_map] at hj
        cases hx : xs[j]? with
        | none => rw [hx] at hj; cases hj
        | some x =>
          rw [hx] at hj
          cases hj
          obtain ⟨ad', e, hc⟩ := hr j x hx
          cases e
          exact hc)
      simpa using this
    rw [run_bytesToString w ad xs.length c xs hl, foldl_push_bytes]
    simp [strOfNums, ByteArray.empty, ByteArray.emptyWithCapacity]
    rfl

theorem cv_bytesN {s e t : TypeId} {w : World} {A : Option Addr} {xs : List Int} {n c : Nat} {k : Value → World → Prop} (hT : BS P s e t) (hn : xs.length = n) (hr : RdI w .u8 A xs) (hk : k (.string (strOfNums xs)) w) : cvK P s t (.slice A n c) w k := by
  subst hn
  exact cv_bytes hT hr hk
theorem RdI.cut {kd : IntKind} {w : World} {A : Option Addr} {xs : List Int} (h : RdI w kd A xs) (l c : Nat) (hc : xs.length ≤ c) : RdI w kd (cutA A l c 1) (xs.drop l) := by
  refine h.drop l fun hl => ?_
  unfold cutA
  rw [if_neg (by omega), Nat.mul_one]
theorem RdI.at {kd : IntKind} {w : World} {A : Option Addr} {xs : List Int} (h : RdI w kd A xs) {i : Nat} (hi : i < xs.length) : ∃ ad, A = some ad ∧ w.cell? (ad.add i) = some (.int kd xs[i]) := h i _ (List.getElem?_eq_getElem hi)
theorem bsl_three {t e : TypeId} {kd : IntKind} {by_ : Nat} {w : World} {x y z : Int} {k : Value → World → Prop} (hT : IE P t e kd by_) (hk : k (.slice (some ⟨w.heap.size, 0, none⟩) 3 3) (w.alloc (.cells #[.int kd x, .int kd y, .int kd z] e))) : bslK P t 3 #[(0, .int kd x), (1, .int kd y), (2, .int kd z)] w k := by
  obtain ⟨ht, hi⟩ := hT
  cases hinfo : P.info? e with
  | none => rw [hinfo] at hi; cases hi
  | some i =>
    rw [hinfo] at hi
    simp only [Option.map_some, Option.some.injEq, Prod.mk.injEq] at hi
    obtain ⟨hz, hs, hby⟩ := hi
    refine runK_of ?_ hk
    simp [Instr.buildSlice, run_underlying ht, sizeOf, typeInfo, hinfo, hs, zeroValue, hz, Instr.fill, Value.cells, newRow, newObj, go_sem]
    rfl
end Go.Proofs.Ytnlibeaainbipaa.M

/- Data of a kind as cells of memory: what a call reads, and rows that it builds. Conditions: those that each theorem names. -/
namespace Go.Proofs.Ytnlibeaainbipaa.M
open Go.RowKit
variable {P : Program}

/-- Nothing that stood is written. -/
abbrev Keep (w w' : World) : Prop := Fx (fun _ => False) w w'
theorem Keep.fx {w w' : World} (h : Keep w w') (m : Nat → Prop) : Fx m w w' := h.weaken (fun _ _ x => x.elim)
theorem Keep.rfl (w : World) : Keep w w := Fx.refl _ w
theorem Keep.tr {w w1 w2 : World} (h : Keep w w1) (h' : Keep w1 w2) : Keep w w2 := h.trans h' (fun _ _ x => x)
theorem Fx.keep {m : Nat → Prop} {w w1 w2 : World} (h : Fx m w w1) (h' : Keep w1 w2) : Fx m w w2 := h.trans h' (fun _ _ x => x.elim)
theorem Fx.tr {m : Nat → Prop} {w w1 w2 : World} (h : Fx m w w1) (h' : Fx m w1 w2) : Fx m w w2 := h.trans h' (fun _ _ x => x)
/-- What is written behind is new. -/
theorem Fx.new {m m' : Nat → Prop} {w w1 w2 : World} (h : Fx m w w1) (h' : Fx m' w1 w2) (hm : ∀ k, m' k → k < w.heap.size → m k) : Fx m w w2 := h.trans h' (fun k hk x => hm k x hk)
theorem add_add (a : Addr) (i j : Nat) : (a.add i).add j = a.add (i + j) := by
  unfold Addr.add
  by_cases h0 : i = 0
  · subst h0; simp
  · by_cases h1 : j = 0
    · subst h1; simp
    · rw [if_neg h0, if_neg h1, if_neg (by omega)]
      simp [Nat.add_assoc]
theorem add_block (a : Addr) (n : Nat) : (a.add n).block = a.block := by unfold Addr.add; split <;> rfl
theorem cell_ext {w w' : World} {a : Addr} (h : w'.heap[a.block]? = w.heap[a.block]?) : w'.cell? a = w.cell? a := by
  unfold World.cell?; rw [h]
theorem cell_lt {w : World} {a : Addr} {v : Value} (h : w.cell? a = some v) : a.block < w.heap.size := World.block_lt_of_cell? w _ h

/-- A kind of data: how many cells, and which. U: the blocks that it reaches. -/
structure Kind (α : Type) where
  sz : Nat
  rep : (Nat → Prop) → World → α → List Value → Prop
  len : ∀ {U w x cs}, rep U w x cs → cs.length = sz
  ext : ∀ {U : Nat → Prop} {w w' : World} {x cs}, rep U w x cs → (∀ k, U k → k < w.heap.size → w'.heap[k]? = w.heap[k]?) → rep U w' x cs
  mono : ∀ {U U' : Nat → Prop} {w : World} {x cs}, rep U w x cs → (∀ k, k < w.heap.size → U k → U' k) → rep U' w x cs
  one : ∀ {U w x cs}, rep U w x cs → ∀ v ∈ cs, v.oneCell' = true
theorem Kind.fx {α : Type} (K : Kind α) {U m : Nat → Prop} {w w' : World} {x : α} {cs : List Value} (h : K.rep U w x cs) (f : Fx m w w') (hn : ∀ k, U k → ¬ m k) : K.rep U w' x cs :=
  K.ext h fun k hk hlt => f.block k hlt (hn k hk)
theorem Kind.keep {α : Type} (K : Kind α) {U : Nat → Prop} {w w' : World} {x : α} {cs : List Value} (h : K.rep U w x cs) (f : Keep w w') : K.rep U w' x cs := K.fx h f (fun _ _ x => x)
/-- What it reaches is there. -/
theorem Kind.lt {α : Type} (K : Kind α) {U : Nat → Prop} {w : World} {x : α} {cs : List Value} (h : K.rep U w x cs) : K.rep (fun k => U k ∧ k < w.heap.size) w x cs := K.mono h fun _ hk hu => ⟨hu, hk⟩

def CellsAt (w : World) (ad : Addr) (cs : List Value) : Prop := ∀ (i : Nat) v, cs[i]? = some v → w.cell? (ad.add i) = some v
theorem CellsAt.ext {w w' : World} {ad : Addr} {cs : List Value} (h : CellsAt w ad cs) (hb : ad.block < w.heap.size → w'.heap[ad.block]? = w.heap[ad.block]?) : CellsAt w' ad cs := by
  intro i v hv
  have hc := h i v hv
  have hlt := cell_lt hc
  rw [add_block] at hlt
  have e : w'.cell? (ad.add i) = w.cell? (ad.add i) := cell_ext (by rw [add_block]; exact hb hlt)
  rw [e]; exact hc
theorem CellsAt.load {w : World} {ad : Addr} : ∀ {cs : List Value} {i : Nat}, CellsAt w (ad.add i) cs → cellsAt w ad i cs.length = some cs
  | [], _, _ => rfl
  | c :: cs, i, h => by
    have h0 := h 0 c rfl
    rw [add_add, Nat.add_zero] at h0
    have h1 : CellsAt w (ad.add (i + 1)) cs := by
      intro j v hv
      have := h (j + 1) v hv
      rw [add_add] at this ⊢
      rw [show i + 1 + j = i + (j + 1) by omega]; exact this
    show (match w.cell? (ad.add i), cellsAt w ad (i + 1) cs.length with
      | some v, some l => some (v :: l)
      | _, _ => none) = _
    rw [h0, CellsAt.load h1]
/-- A struct's value is loaded. -/
theorem ldV_agg {w : World} {t n : Nat} {ad : Addr} {cs : List Value} (hs : shapeOf P t = some (some n)) (hn : cs.length = n) (h : CellsAt w ad cs) : ldV P w t (.pointer (some ad)) = some (.agg cs.toArray) := by
  have h' : CellsAt w (ad.add 0) cs := by rw [add_zero']; exact h
  subst hn
  simp [ldV, hs, CellsAt.load h']
theorem CellsAt.drop {w : World} {ad : Addr} {cs : List Value} (h : CellsAt w ad cs) (n : Nat) : CellsAt w (ad.add n) (cs.drop n) := by
  intro i v hv
  rw [List.getElem?_drop] at hv
  rw [add_add]
  exact h _ v hv
theorem CellsAt.left {w : World} {ad : Addr} {cs ds : List Value} (h : CellsAt w ad (cs ++ ds)) : CellsAt w ad cs := by
  intro i v hv
  refine h i v ?_
  rw [List.getElem?_append_left (List.getElem?_eq_some_iff.1 hv).1]
  exact hv
theorem Blk.cells {w : World} {g : Nat} {t : TypeId} {cs : Array Value} (h : Blk w g t cs) : CellsAt w ⟨g, 0, none⟩ cs.toList := by
  intro i v hv
  have : (⟨g, 0, none⟩ : Addr).add i = ⟨g, i, none⟩ := by unfold Addr.add; split <;> simp_all
  rw [this, h.cell]
  simpa using hv

/-! ### kinds -/
def Kind.int (kd : IntKind) : Kind Int where
  sz := 1
  rep _ _ x cs := cs = [.int kd x] ∧ (Lit.int kd x).wf = true
  len h := by rw [h.1]; rfl
  ext h _ := h
  mono h _ := h
  one h := by rw [h.1]; simp [Value.oneCell']
def Kind.bool : Kind Bool where
  sz := 1
  rep _ _ x cs := cs = [.bool x]
  len h := by rw [h]; rfl
  ext h _ := h
  mono h _ := h
  one h := by rw [h]; simp [Value.oneCell']
def Kind.str : Kind ByteArray where
  sz := 1
  rep _ _ x cs := cs = [.string x] ∧ x.size ≤ maxLen
  len h := by rw [h.1]; rfl
  ext h _ := h
  mono h _ := h
  one h := by rw [h.1]; simp [Value.oneCell']
/-- The elements of a slice. -/
def Elems {α : Type} (K : Kind α) (U : Nat → Prop) (w : World) (A : Option Addr) (xs : List α) : Prop :=
  ∀ (j : Nat) x, xs[j]? = some x → ∃ ad, A = some ad ∧ U ad.block ∧ ∃ vs, K.rep U w x vs ∧ CellsAt w (ad.add (j * K.sz)) vs
theorem Elems.ext {α : Type} {K : Kind α} {U : Nat → Prop} {w w' : World} {A : Option Addr} {xs : List α} (h : Elems K U w A xs) (hb : ∀ k, U k → k < w.heap.size → w'.heap[k]? = w.heap[k]?) : Elems K U w' A xs := by
  intro j x hx
  obtain ⟨ad, hA, hU, vs, hr, hc⟩ := h j x hx
  exact ⟨ad, hA, hU, vs, K.ext hr hb, hc.ext fun hlt => by rw [add_block] at hlt ⊢; exact hb _ hU hlt⟩
theorem Elems.fx {α : Type} {K : Kind α} {U m : Nat → Prop} {w w' : World} {A : Option Addr} {xs : List α} (h : Elems K U w A xs) (f : Fx m w w') (hn : ∀ k, U k → ¬ m k) : Elems K U w' A xs :=
  h.ext fun k hk hlt => f.block k hlt (hn k hk)
theorem Elems.keep {α : Type} {K : Kind α} {U : Nat → Prop} {w w' : World} {A : Option Addr} {xs : List α} (h : Elems K U w A xs) (f : Keep w w') : Elems K U w' A xs := h.fx f (fun _ _ x => x)
theorem Elems.nil {α : Type} (K : Kind α) (U : Nat → Prop) (w : World) (A : Option Addr) : Elems K U w A [] := fun j x hx => by simp at hx

/-- Of what the elements of a slice reach, and where they stand, just what is there matters. -/
theorem Elems.mono {α : Type} {K : Kind α} (hz : 0 < K.sz) {U U' : Nat → Prop} {w : World} {A : Option Addr} {xs : List α} (h : Elems K U w A xs) (hb : ∀ k, k < w.heap.size → U k → U' k) : Elems K U' w A xs := by
  intro j x hx
  obtain ⟨ad, hA, hU, vs, hr, hc⟩ := h j x hx
  have hl := K.len hr
  have : ad.block < w.heap.size := by
    cases vs with
    | nil => simp at hl; omega
    | cons v vs =>
      have := cell_lt (hc 0 v rfl)
      rwa [add_block, add_block] at this
  exact ⟨ad, hA, hb _ this hU, vs, K.mono hr hb, hc⟩
def Kind.list {α : Type} (K : Kind α) (hz : 0 < K.sz) : Kind (List α) where
  sz := 1
  rep U w xs cs := ∃ A c, cs = [.slice A xs.length c] ∧ xs.length ≤ c ∧ c ≤ maxLen ∧ Elems K U w A xs
  len h := by obtain ⟨A, c, rfl, _⟩ := h; rfl
  ext h hb := by
    obtain ⟨A, c, e, h1, h2, h3⟩ := h
    exact ⟨A, c, e, h1, h2, h3.ext hb⟩
  mono h hb := by
    obtain ⟨A, c, e, h1, h2, h3⟩ := h
    exact ⟨A, c, e, h1, h2, h3.mono hz hb⟩
  one h := by obtain ⟨A, c, rfl, _⟩ := h; simp [Value.oneCell']
def Kind.pair {α β : Type} (K : Kind α) (L : Kind β) : Kind (α × β) where
  sz := K.sz + L.sz
  rep U w x cs := ∃ c1 c2, cs = c1 ++ c2 ∧ K.rep U w x.1 c1 ∧ L.rep U w x.2 c2
  len h := by obtain ⟨c1, c2, rfl, h1, h2⟩ := h; rw [List.length_append, K.len h1, L.len h2]
  ext h hb := by obtain ⟨c1, c2, e, h1, h2⟩ := h; exact ⟨c1, c2, e, K.ext h1 hb, L.ext h2 hb⟩
  mono h hb := by obtain ⟨c1, c2, e, h1, h2⟩ := h; exact ⟨c1, c2, e, K.mono h1 hb, L.mono h2 hb⟩
  one h v hv := by
    obtain ⟨c1, c2, rfl, h1, h2⟩ := h
    rcases List.mem_append.1 hv with hv | hv
    · exact K.one h1 v hv
    · exact L.one h2 v hv
def Kind.of {α β : Type} (f : β → α) (K : Kind α) : Kind β where
  sz := K.sz
  rep U w x cs := K.rep U w (f x) cs
  len h := K.len h
  ext h hb := K.ext h hb
  mono h hb := K.mono h hb
  one h := K.one h

/-! ### what a call reads of its arguments -/
/-- What is read of type t is of the kind K. -/
def Opens {α : Type} (P : Program) (K : Kind α) (t : TypeId) : Prop := ∀ {H : Type} (enc : TypeId × Value → H) (w : World) (base : Nat) (held : Bool) (fuel : Nat) (cs : List Value) (x : DataW H × List MemPlace),
  DataW.trod enc P w base (fun _ => true) held fuel t cs = some x → ∃ a, K.rep (fun k => k < w.heap.size) w a cs
theorem opens_int {t : TypeId} {kd : IntKind} (ht : P.underlying t = some (.int kd)) : Opens P (Kind.int kd) t := by
  intro H enc w base held fuel cs x h
  obtain ⟨n, rfl, _, hw⟩ := DataW.trod_int ht h
  exact ⟨n, rfl, hw⟩
theorem opens_bool {t : TypeId} (ht : P.underlying t = some .bool) : Opens P Kind.bool t := by
  intro H enc w base held fuel cs x h
  obtain ⟨b, rfl, _⟩ := DataW.trod_bool ht h
  exact ⟨b, rfl⟩
theorem opens_str {t : TypeId} (ht : P.underlying t = some .string) : Opens P Kind.str t := by
  intro H enc w base held fuel cs x h
  obtain ⟨s, rfl, _, hs⟩ := DataW.trod_string ht h
  exact ⟨s, rfl, hs⟩
theorem cellsAt_of {w : World} {base n : Nat} {a : Addr} {cs : List Value} (h : w.cells? base a n = some cs) : cs.length = n ∧ CellsAt w a cs := by
  obtain ⟨_, hl, hc⟩ := World.cells?_some h
  refine ⟨hl, fun i v hv => ?_⟩
  rw [hc i (by have := (List.getElem?_eq_some_iff.1 hv).1; omega)]
  exact hv
theorem list_of {α : Type} {p : Nat → α → Prop} : ∀ (len : Nat), (∀ i, i < len → ∃ y, p i y) → ∃ ys : List α, ys.length = len ∧ ∀ i y, ys[i]? = some y → p i y
  | 0, _ => ⟨[], rfl, fun i y hy => by simp at hy⟩
  | len + 1, each => by
    obtain ⟨ys, h1, h2⟩ := list_of len (fun i hi => each i (by omega))
    obtain ⟨y, hy⟩ := each len (by omega)
    refine ⟨ys ++ [y], by simp [h1], fun i z hz => ?_⟩
    rw [List.getElem?_append] at hz
    split at hz
    · exact h2 i z hz
    · rename_i hge
      have : i = len := by
        have := (List.getElem?_eq_some_iff.1 hz).1
        simp at this; omega
      subst this
      rw [h1, Nat.sub_self] at hz
      cases hz
      exact hy
theorem opens_list {α : Type} {K : Kind α} {t e : TypeId} (hz : 0 < K.sz) (ht : P.underlying t = some (.slice e)) (hc : P.cellsOf e = K.sz) (hK : Opens P K e) : Opens P (Kind.list K hz) t := by
  intro H enc w base held fuel cs x h
  rcases DataW.trod_slice ht h with ⟨rfl, _⟩ | ⟨a, len, cap, elems, rest, n, _, rfl, _, _, hlc, hm, hel, hall, _⟩
  · exact ⟨[], none, 0, rfl, Nat.le_refl _, Nat.zero_le _, Elems.nil _ _ _ _⟩
  · have each : ∀ i, i < len → ∃ y : α, ∃ vs, K.rep (fun k => k < w.heap.size) w y vs ∧ CellsAt w (a.add (i * K.sz)) vs := by
      intro i hi
      have h1 := hall i hi
      rw [List.getElem?_eq_getElem (by omega)] at h1
      cases hcs : w.cells? base (a.add (i * P.cellsOf e)) (P.cellsOf e) with
      | none => rw [hcs] at h1; cases h1
      | some vs =>
        rw [hcs] at h1
        obtain ⟨y', hr⟩ := hK enc w base held _ vs _ h1
        rw [hc] at hcs
        exact ⟨y', vs, hr, (cellsAt_of hcs).2⟩
    obtain ⟨ys, hyl, hys⟩ := list_of len each
    subst hyl
    refine ⟨ys, some a, cap, rfl, hlc, hm, fun j y hy => ?_⟩
    obtain ⟨vs, hr, hcv⟩ := hys j y hy
    refine ⟨a, rfl, ?_, vs, hr, hcv⟩
    have hl := K.len hr
    cases vs with
    | nil => simp at hl; omega
    | cons v vs =>
      have := cell_lt (hcv 0 v rfl)
      rwa [add_block, add_block] at this
/-- Fields, from the offset o on. -/
def OpensF {α : Type} (P : Program) (K : Kind α) (l : List (TypeId × Nat)) (o : Nat) : Prop := ∀ {H : Type} (enc : TypeId × Value → H) (w : World) (base : Nat) (held : Bool) (fuel : Nat) (cs : List Value),
  (∀ p ∈ l, ∃ x, DataW.trod enc P w base (fun _ => true) held fuel p.1 ((cs.drop p.2).take (P.cellsOf p.1)) = some x) → ∃ a, K.rep (fun k => k < w.heap.size) w a ((cs.drop o).take K.sz)
theorem opensF_last {α : Type} {K : Kind α} {t o : Nat} (h : Opens P K t) (hc : P.cellsOf t = K.sz) : OpensF P K [(t, o)] o := by
  intro H enc w base held fuel cs hx
  obtain ⟨x, hx⟩ := hx (t, o) (by simp)
  simp only at hx
  rw [hc] at hx
  exact h enc w base held fuel _ x hx
theorem opensF_pair {α β : Type} {K : Kind α} {L : Kind β} {t o : Nat} {l : List (TypeId × Nat)} (h : Opens P K t) (hc : P.cellsOf t = K.sz) (h' : OpensF P L l (o + K.sz)) : OpensF P (K.pair L) ((t, o) :: l) o := by
  intro H enc w base held fuel cs hx
  obtain ⟨x, h1⟩ := hx (t, o) (List.mem_cons_self ..)
  simp only at h1
  rw [hc] at h1
  obtain ⟨a, ha⟩ := h enc w base held fuel _ x h1
  obtain ⟨b, hb⟩ := h' enc w base held fuel cs (fun p hp => hx p (List.mem_cons_of_mem _ hp))
  refine ⟨(a, b), _, _, ?_, ha, hb⟩
  show (cs.drop o).take (K.sz + L.sz) = _
  rw [List.take_add, List.drop_drop]
theorem opens_struct {α : Type} {K : Kind α} {t : TypeId} {fs : Array Field} {l : List (TypeId × Nat)} (ht : P.underlying t = some (.struct fs)) (hl : fs.toList.map (fun f => (f.type, f.offset)) = l) (hc : P.cellsOf t = K.sz) (h : OpensF P K l 0) : Opens P K t := by
  intro H enc w base held fuel cs x hx
  obtain ⟨xs, n, _, _, hcl, hxl, hall⟩ := DataW.trod_struct ht hx
  have := h enc w base held n cs (fun p hp => by
    rw [← hl] at hp
    obtain ⟨f, hf, rfl⟩ := List.mem_map.1 hp
    obtain ⟨i, hi, e⟩ := List.mem_iff_getElem.1 hf
    have h1 := hall i f (by rw [← Array.getElem?_toList, List.getElem?_eq_getElem hi, e])
    rw [h1]
    rw [List.getElem?_eq_getElem (by rw [hxl]; simpa using hi)]
    exact ⟨_, rfl⟩)
  rw [List.drop_zero, List.take_of_length_le (by omega)] at this
  exact this
theorem opens_of {α β : Type} {K : Kind α} {t : TypeId} (f : β → α) (g : α → β) (hfg : ∀ a, f (g a) = a) (h : Opens P K t) : Opens P (K.of f) t := by
  intro H enc w base held fuel cs x hx
  obtain ⟨a, ha⟩ := h enc w base held fuel cs x hx
  exact ⟨g a, by show K.rep _ w (f (g a)) cs; rw [hfg]; exact ha⟩
end Go.Proofs.Ytnlibeaainbipaa.M

/- Further rules of the machine: struct values made, loaded and stored, rows of data of a kind that a call builds, the runes of a text. Conditions: those that each theorem names. -/
namespace Go.Proofs.Ytnlibeaainbipaa.M
open Go.RowKit
variable {P : Program}

abbrev At (g : Nat) (i : Nat) : Addr := ⟨g, i, none⟩
abbrev only (g : Nat) : Nat → Prop := fun k => k = g
theorem at_add (g o i : Nat) : (⟨g, o, none⟩ : Addr).add i = ⟨g, o + i, none⟩ := by unfold Addr.add; split <;> simp_all
@[go_sem] theorem cells_agg (cs : Array Value) : (Value.agg cs).cells = cs := rfl
@[go_sem] theorem cells_ptr (a : Option Addr) : (Value.pointer a).cells = #[.pointer a] := rfl
@[go_sem] theorem cells_int (k : IntKind) (n : Int) : (Value.int k n).cells = #[.int k n] := rfl
@[go_sem] theorem cells_slc (a : Option Addr) (n c : Nat) : (Value.slice a n c).cells = #[.slice a n c] := rfl
@[go_sem] theorem one_map (a : Option Nat) : (Value.map a).oneCell' = true := rfl
@[go_sem] theorem boxK_eq (t : TypeId) (v : Value) (w : World) (k : Value → World → Prop) : boxK t v w k = k (.pointer (some (At w.heap.size 0))) (w.alloc (.cells v.cells t)) := rfl

/-! ### a struct is stored -/
def putC (cs : Array Value) (o : Nat) (vs : List Value) : Array Value := (cs.toList.take o ++ vs ++ cs.toList.drop (o + vs.length)).toArray
def putO (o : Nat) (vs : List Value) : Obj → Obj
  | .cells c e f => .cells (putC c o vs) e f
  | x => x
def putW (w : World) (g o : Nat) (vs : List Value) : World := { w with heap := w.heap.modify g (putO o vs) }
theorem Blk.put {w : World} {g : Nat} {t : TypeId} {cs : Array Value} (h : Blk w g t cs) (o : Nat) (vs : List Value) : Blk (putW w g o vs) g t (putC cs o vs) := by
  unfold Blk putW
  have h' : w.heap[g]? = _ := h
  simp [Array.getElem?_modify, h', putO]
theorem Blk.put_ne {w : World} {g g' : Nat} {t : TypeId} {cs : Array Value} (h : Blk w g t cs) (hne : g' ≠ g) (o : Nat) (vs : List Value) : Blk (putW w g' o vs) g t cs := by
  unfold Blk putW
  have h' : w.heap[g]? = _ := h
  simp [Array.getElem?_modify, hne, h']
theorem Fx.put {m : Nat → Prop} (w : World) (g o : Nat) (vs : List Value) (hm : m g) : Fx m w (putW w g o vs) :=
  ⟨rfl, rfl, rfl, by simp [putW], fun k _ hn => by
    have : g ≠ k := fun e => hn (e ▸ hm)
    simp [putW, Array.getElem?_modify, this]⟩
theorem size_put (w : World) (g o : Nat) (vs : List Value) : (putW w g o vs).heap.size = w.heap.size := by simp [putW]
theorem put_none {w : World} {g t o : Nat} {cs : Array Value} (h : Blk w g t cs) : putW w g o [] = w := by
  have h' : w.heap[g]? = _ := h
  have hl : w.heap.modify g (putO o []) = w.heap := by
    apply Array.ext_getElem?
    intro i
    rw [Array.getElem?_modify]
    by_cases e : g = i
    · subst e
      rw [if_pos rfl, h']
      simp [putO, putC]
    · rw [if_neg e]
  show { w with heap := w.heap.modify g (putO o []) } = w
  rw [hl]
theorem set_put (cs : Array Value) (o : Nat) (v : Value) (vs : List Value) (ho : o < cs.size) : putC (cs.setIfInBounds o v) (o + 1) vs = putC cs o (v :: vs) := by
  unfold putC
  apply Array.ext'
  simp only [Array.toList_setIfInBounds]
  rw [List.drop_set]
  rw [if_pos (by omega)]
  have h1 : (cs.toList.set o v).take (o + 1) = cs.toList.take o ++ [v] := by
    rw [List.take_succ_eq_append_getElem (by simpa using ho), List.take_set, List.set_eq_of_length_le (by rw [List.length_take]; omega)]
    simp
  rw [h1]
  have h2 : o + 1 + vs.length = o + (vs.length + 1) := by omega
  simp only [List.append_assoc, List.cons_append, List.nil_append, List.length_cons, h2]
theorem setCell_put {w : World} {g t o : Nat} {cs : Array Value} {v : Value} {vs : List Value} (h : Blk w g t cs) (ho : o < cs.size) : putW (w.setCell ⟨g, o, none⟩ v) g (o + 1) vs = putW w g o (v :: vs) := by
  have h' : w.heap[g]? = _ := h
  unfold putW World.setCell
  simp only
  congr 1
  apply Array.ext_getElem?
  intro i
  simp only [Array.getElem?_modify]
  by_cases e : g = i
  · subst e
    simp only [if_true, h', Option.map_some, putO]
    simp [set_put cs o v vs ho]
  · simp only [e, if_false]
theorem stCells_put {t : TypeId} {g : Nat} : ∀ {vs : List Value} {w : World} {o i : Nat} {cs : Array Value}, Blk w g t cs → o + i + vs.length ≤ cs.size → (∀ v ∈ vs, v.oneCell' = true) → stCells w ⟨g, o, none⟩ i vs = some (putW w g (o + i) vs)
  | [], w, o, i, cs, h, _, _ => by rw [put_none h]; rfl
  | v :: vs, w, o, i, cs, h, hl, h1 => by
    simp only [List.length_cons] at hl
    unfold stCells
    rw [at_add, h.cell, h.frozen, h1 v (by simp)]
    rw [if_pos (by simp [Array.getElem?_eq_getElem (by omega : o + i < cs.size)])]
    have h2 := h.set (o + i) v
    have := stCells_put (vs := vs) (o := o) (i := i + 1) h2 (by simp; omega) (fun x hx => h1 x (by simp [hx]))
    rw [this, ← Nat.add_assoc, setCell_put h (by omega)]
theorem stV_put {w : World} {g t ty o n : Nat} {cs : Array Value} {vs : List Value} (hz : sizeOf1 P ty = some n) (hn : vs.length = n) (h : Blk w g t cs) (ho : o + n ≤ cs.size) (h1 : ∀ v ∈ vs, v.oneCell' = true) :
    stV P w ty (.pointer (some (At g o))) (.agg vs.toArray) = some (putW w g o vs) := by
  subst hn
  show (if sizeOf1 P ty = some (Value.agg vs.toArray).cells.size then stCells w (At g o) 0 (Value.agg vs.toArray).cells.toList else none) = _
  rw [if_pos (by rw [hz]; rfl)]
  exact stCells_put (vs := vs) (o := o) (i := 0) h (by omega) h1
/-- One cell of a block is stored. -/
theorem stV_at {w : World} {g t ty o : Nat} {cs : Array Value} {v : Value} (hz : sizeOf1 P ty = some 1) (h : Blk w g t cs) (ho : o < cs.size) (h1 : v.oneCell' = true) : stV P w ty (.pointer (some (At g o))) v = some (putW w g o [v]) := by
  have e := cells_one h1
  show (if sizeOf1 P ty = some v.cells.size then stCells w (At g o) 0 v.cells.toList else none) = _
  rw [e, if_pos (by rw [hz]; rfl)]
  have := stCells_put (vs := [v]) (o := o) (i := 0) h (by simp; omega) (fun x hx => by simp at hx; subst hx; exact h1)
  simpa using this

def allOne : List Value → Bool
  | [] => true
  | v :: vs => v.oneCell' && allOne vs
theorem allOne_nil : allOne [] = true := rfl
theorem allOne_cons (v : Value) (vs : List Value) : allOne (v :: vs) = (v.oneCell' && allOne vs) := rfl
theorem allOne_mem : ∀ {vs : List Value}, allOne vs = true → ∀ v ∈ vs, v.oneCell' = true
  | v :: vs, h, u, hu => by
    rw [allOne_cons, Bool.and_eq_true] at h
    rcases List.mem_cons.1 hu with rfl | hu
    · exact h.1
    · exact allOne_mem h.2 u hu
/-- A struct's value is stored: the walk's rule. -/
theorem stB {w : World} {g t ty o n : Nat} {cs : Array Value} (hz : sizeOf1 P ty = some n) (h : Blk w g t cs) (ho : o + n ≤ cs.size) (vs : List Value) (hn : vs.length = n) (h1 : allOne vs = true) :
    stV P w ty (.pointer (some (At g o))) (.agg vs.toArray) = some (putW w g o vs) := stV_put hz hn h ho (allOne_mem h1)

/-! ### a struct is made -/
theorem bldV_of {t : TypeId} {fs : Array Field} {z : Array Value} {l : List (Nat × Nat)} (hu : P.underlying t = some (.struct fs)) (hz : (P.info? t).bind (·.zero) = some (.agg z)) (hl : placesOf P fs.toList = some l) (ps : Array (Nat × Value)) {out : Array Value}
    (h : Instr.fill (l[·]?) z ps.toList = some out) : bldV P t ps = some (.agg out) := by
  have h' : Instr.fill (l[·]?) (Value.agg z).cells ps.toList = some out := h
  simp [bldV, hu, hz, hl, h']
def PlaceOf (P : Program) (t : TypeId) (l : List (Nat × Nat)) : Prop := ∃ fs, P.underlying t = some (.struct fs) ∧ placesOf P fs.toList = some l
theorem bldV_at {t : TypeId} {z : Array Value} {l : List (Nat × Nat)} (hp : PlaceOf P t l) (hz : (P.info? t).bind (·.zero) = some (.agg z)) (ps : Array (Nat × Value)) {out : Array Value}
    (h : Instr.fill (l[·]?) z ps.toList = some out) : bldV P t ps = some (.agg out) := by
  obtain ⟨fs, hu, hl⟩ := hp
  exact bldV_of hu hz hl ps h
theorem bldK_eq {t : TypeId} {ps : Array (Nat × Value)} {v : Value} (h : bldV P t ps = some v) (w : World) (k : Value → World → Prop) : bldK P t ps w k = k v w := by
  have hr := bldV_run h w
  refine propext ⟨fun ⟨v', w', hr', hk⟩ => ?_, fun hk => ⟨v, w, hr, hk⟩⟩
  rw [hr] at hr'
  cases hr'
  exact hk

/-! ### new memory -/
theorem alloc_eq {t : TypeId} {z : Value} (hz : (P.info? t).bind (·.zero) = some z) (w : World) (k : Value → World → Prop) : runK P (Instr.alloc t true (.tuple #[])) w k = k (.pointer (some (At w.heap.size 0))) (w.alloc (.cells z.cells t)) := by
  have hr : (Instr.alloc t true (.tuple #[])).run P w = .ok (.pointer (some (At w.heap.size 0))) (w.alloc (.cells z.cells t)) := by
    cases hi : P.info? t with
    | none => rw [hi] at hz; cases hz
    | some i =>
      rw [hi] at hz
      replace hz : i.zero = some z := hz
      simp [Instr.alloc, zeroValue, typeInfo, hi, hz, newVar, newRow, newObj]
      rfl
  refine propext ⟨fun ⟨v', w', hr', hk⟩ => ?_, fun hk => ⟨_, _, hr, hk⟩⟩
  rw [hr] at hr'
  cases hr'
  exact hk
/-- The type of a row, its elements' cells and bytes. -/
def ET (P : Program) (t e sz by_ : Nat) : Prop := P.underlying t = some (.slice e) ∧ (P.info? e).map (fun i => (i.zero.map (fun z => z.cells.size), i.size, i.bytes)) = some (some sz, sz, by_)
theorem ET.info {t e sz by_ : Nat} (h : ET P t e sz by_) : ∃ i z, P.info? e = some i ∧ i.zero = some z ∧ i.size = sz ∧ i.bytes = by_ ∧ z.cells.size = sz := by
  obtain ⟨_, h⟩ := h
  cases hi : P.info? e with
  | none => rw [hi] at h; cases h
  | some i =>
    rw [hi] at h
    simp only [Option.map_some, Option.some.injEq, Prod.mk.injEq] at h
    obtain ⟨h1, h2, h3⟩ := h
    cases hz : i.zero with
    | none => rw [hz] at h1; cases h1
    | some z =>
      rw [hz] at h1
      exact ⟨i, z, rfl, hz, h2, h3, by simpa using h1⟩
theorem foldl_set (vs : List Value) : ∀ (o : Nat) (cs : Array Value), o + vs.length ≤ cs.size → (vs.zipIdx o).foldl (fun cs (x : Value × Nat) => cs.setIfInBounds x.2 x.1) cs = putC cs o vs := by
  induction vs with
  | nil => intro o cs _; simp [putC]
  | cons v vs ih =>
    intro o cs h
    simp only [List.length_cons] at h
    rw [List.zipIdx_cons, List.foldl_cons, ih (o + 1) _ (by simp; omega), set_put cs o v vs (by omega)]
theorem fill_whole (v : Value) (cs : Array Value) (hs : cs.size = v.cells.size) : Instr.fill (fun i => some (i * v.cells.size, v.cells.size)) cs [(0, v)] = some v.cells := by
  unfold Instr.fill
  simp only [Nat.zero_mul, ne_eq, Bool.or_eq_true, decide_eq_true_eq, Nat.zero_add]
  rw [if_neg (by simp [hs])]
  have : v.cells.zipIdx.foldl (fun cs (x : Value × Nat) => cs.setIfInBounds x.2 x.1) cs = v.cells := by
    rw [← Array.foldl_toList]
    have := foldl_set v.cells.toList 0 cs (by simp; omega)
    simp only [Array.toList_zipIdx] 
    rw [this]
    unfold putC
    apply Array.ext'
    simp [hs]
  simp only [Instr.fill, this]
theorem bsl_val {t e sz by_ : Nat} (hT : ET P t e sz by_) (h0 : 0 < sz) (h24 : sz ≤ 16777216) {v : Value} (hv : v.cells.size = sz) {w : World} {k : Value → World → Prop} (hk : k (.slice (some (At w.heap.size 0)) 1 1) (w.alloc (.cells v.cells e))) : bslK P t 1 #[(0, v)] w k := by
  obtain ⟨i, z, hi, hz, hs, hb, hzs⟩ := hT.info
  refine runK_of ?_ hk
  have hfill := fill_whole v ((Array.range sz).map fun x => z.cells[x % z.cells.size]!) (by simp [hv])
  rw [hv] at hfill
  have h24' : ¬ (16777216 < sz) := by omega
  have h0' : ¬ sz = 0 := by omega
  simp [Instr.buildSlice, run_underlying hT.1, sizeOf, typeInfo, hi, hs, zeroValue, hz, h24', h0', hfill, newRow, newObj]
  rfl
theorem bsl_none {t e sz by_ : Nat} (hT : ET P t e sz by_) {w : World} {k : Value → World → Prop} (hk : k (.slice (some (At w.heap.size 0)) 0 0) (w.alloc (.cells #[] e))) : bslK P t 0 #[] w k := by
  obtain ⟨i, z, hi, hz, hs, hb, hzs⟩ := hT.info
  refine runK_of ?_ hk
  simp [Instr.buildSlice, run_underlying hT.1, sizeOf, typeInfo, hi, Instr.fill, newRow, newObj]
  have e0 : ∀ f : Nat → Value, (Array.range 0).map f = #[] := fun f => by apply Array.ext'; simp
  rw [e0]
  rfl

/-! ### a row of the call's own, of data of a kind -/
def OwnR {α : Type} (K : Kind α) (e : TypeId) (U : Nat → Prop) (lo : Nat) (w : World) (v : Value) (xs : List α) : Prop :=
  ∃ css : List (List Value), w.ownsRow lo e K.sz v xs.length css.flatten ∧ css.length = xs.length ∧ ∀ (j : Nat) x, xs[j]? = some x → ∃ vs, css[j]? = some vs ∧ K.rep (fun k => U k ∧ v.ownBlock ≠ some k) w x vs
theorem OwnR.nil {α : Type} (K : Kind α) (e : TypeId) (U : Nat → Prop) (lo : Nat) (w : World) : OwnR K e U lo w (.slice none 0 0) [] := ⟨[], World.ownsRow_nil w lo e K.sz, rfl, fun j x hx => by simp at hx⟩
theorem flat_at {css : List (List Value)} {sz : Nat} (h : ∀ vs ∈ css, vs.length = sz) : ∀ {j : Nat} {vs : List Value}, css[j]? = some vs → ∀ i v, vs[i]? = some v → css.flatten[j * sz + i]? = some v := by
  induction css with
  | nil => intro j vs hj; simp at hj
  | cons c css ih =>
    intro j vs hj i v hi
    have hc := h c (by simp)
    cases j with
    | zero =>
      cases hj
      rw [List.flatten_cons, Nat.zero_mul, Nat.zero_add, List.getElem?_append_left (List.getElem?_eq_some_iff.1 hi).1]
      exact hi
    | succ j =>
      have := ih (fun vs hv => h vs (by simp [hv])) (j := j) (vs := vs) hj i v hi
      rw [List.flatten_cons, List.getElem?_append_right (by rw [hc, Nat.succ_mul]; omega), hc]
      rw [show (j + 1) * sz + i - sz = j * sz + i by rw [Nat.succ_mul]; omega]
      exact this
theorem OwnR.lens {α : Type} {K : Kind α} {U : Nat → Prop} {w : World} {xs : List α} {css : List (List Value)} (hl : css.length = xs.length) (h : ∀ (j : Nat) x, xs[j]? = some x → ∃ vs, css[j]? = some vs ∧ K.rep U w x vs) : ∀ vs ∈ css, vs.length = K.sz := by
  intro vs hvs
  obtain ⟨j, hj, e⟩ := List.mem_iff_getElem.1 hvs
  obtain ⟨vs', h1, h2⟩ := h j _ (List.getElem?_eq_getElem (by omega : j < xs.length))
  rw [List.getElem?_eq_getElem hj, e] at h1
  cases h1
  exact K.len h2
theorem OwnR.cap {α : Type} {K : Kind α} {e : TypeId} {U : Nat → Prop} {lo : Nat} {w : World} {v : Value} {xs : List α} (h : OwnR K e U lo w v xs) : ∃ A c, v = .slice A xs.length c ∧ xs.length ≤ c ∧ c ≤ maxLen ∧ (xs = [] ∨ ∃ g, A = some (At g 0) ∧ v.ownBlock = some g) := by
  obtain ⟨css, h1, hl, h2⟩ := h
  rcases h1.2 with ⟨hv, hn⟩ | ⟨g, cap, cur, hv, hb, hg, hc, hm, hs, ht⟩
  · have : xs = [] := List.eq_nil_of_length_eq_zero hn
    subst this
    exact ⟨none, 0, hv, Nat.le_refl _, Nat.zero_le _, .inl rfl⟩
  · exact ⟨_, cap, hv, hc, hm, .inr ⟨g, rfl, by rw [hv]; rfl⟩⟩
/-- What was built is data of the kind of rows. -/
theorem OwnR.rep {α : Type} {K : Kind α} (hz : 0 < K.sz) {e : TypeId} {U U' : Nat → Prop} {lo : Nat} {w : World} {v : Value} {xs : List α} (h : OwnR K e U lo w v xs) (hU : ∀ k, U k → U' k) (hlo : ∀ k, lo ≤ k → U' k) : (Kind.list K hz).rep U' w xs [v] := by
  obtain ⟨A, c, hv, hlc, hm, hA⟩ := h.cap
  refine ⟨A, c, by rw [hv], hlc, hm, ?_⟩
  obtain ⟨css, h1, hl, h2⟩ := h
  intro j x hx
  rcases hA with rfl | ⟨g, rfl, hg⟩
  · simp at hx
  obtain ⟨vs, hc1, hr⟩ := h2 j x hx
  refine ⟨_, rfl, hlo _ (World.ownsRow.lt h1 g hg).1, vs, K.mono hr fun k _ hk => hU k hk.1, fun i u hi => ?_⟩
  rw [at_add, at_add]
  have := World.ownsRow.cells h1 (g := g) hg (j * K.sz + i) u (flat_at (OwnR.lens hl h2) hc1 i u hi)
  rw [at_add] at this
  rw [Nat.add_assoc]; exact this
theorem OwnR.lt {α : Type} {K : Kind α} {e : TypeId} {U : Nat → Prop} {lo : Nat} {w : World} {v : Value} {xs : List α} (h : OwnR K e U lo w v xs) {k : Nat} (hk : v.ownBlock = some k) : lo ≤ k ∧ k < w.heap.size := by
  obtain ⟨css, h1, _⟩ := h
  exact World.ownsRow.lt h1 k hk
theorem OwnR.fx {α : Type} {K : Kind α} {e : TypeId} {U : Nat → Prop} {lo : Nat} {m : Nat → Prop} {w w' : World} {v : Value} {xs : List α} (h : OwnR K e U lo w v xs) (hf : Fx m w w') (hU : ∀ k, U k → v.ownBlock ≠ some k → ¬ m k) (hn : ∀ k, v.ownBlock = some k → ¬ m k) : OwnR K e U lo w' v xs := by
  obtain ⟨css, h1, hl, h2⟩ := h
  refine ⟨css, ?_, hl, fun j x hx => ?_⟩
  · refine ⟨h1.1, ?_⟩
    rcases h1.2 with hv | ⟨g, cap, cur, hv, hb, hg, r⟩
    · exact .inl hv
    · refine .inr ⟨g, cap, cur, hv, hb, ?_, r⟩
      rw [hf.block g (Array.getElem?_eq_some_iff.1 hg).1 (hn g (by rw [hv]; rfl))]
      exact hg
  · obtain ⟨vs, hc, hr⟩ := h2 j x hx
    exact ⟨vs, hc, K.fx hr hf fun k hk => hU k hk.1 hk.2⟩
theorem OwnR.keep {α : Type} {K : Kind α} {e : TypeId} {U : Nat → Prop} {lo : Nat} {w w' : World} {v : Value} {xs : List α} (h : OwnR K e U lo w v xs) (hf : Keep w w') : OwnR K e U lo w' v xs := h.fx hf (fun _ _ _ x => x) (fun _ _ x => x)
/-- One more is appended. -/
theorem append_ownR_at {α : Type} {K : Kind α} {t e ty sz by_ : Nat} {U : Nat → Prop} {lo : Nat} {w : World} {v : Value} {xs : List α} {x : α} {ad : Addr} {c : Nat} {cs : List Value} {k : Value → World → Prop} (hT : ET P t e sz by_) (hsz : K.sz = sz) (h0 : 0 < sz)
    (h : OwnR K e U lo w v xs) (hx : K.rep (fun k => U k ∧ v.ownBlock ≠ some k) w x cs) (hc : CellsAt w ad cs) (hlen : (xs.length + 1) * by_ ≤ 140737488355328) (hlen' : xs.length + 1 ≤ maxLen) (hb : lo ≤ w.heap.size)
    (hk : ∀ v' w', OwnR K e U lo w' v' (xs ++ [x]) → Fx (fun k => v.ownBlock = some k) w w' → (v'.ownBlock = v.ownBlock ∨ v'.ownBlock = some w.heap.size) → k v' w') : appK P #[t, t] ty #[v, .slice (some ad) 1 c] w k := by
  subst hsz
  obtain ⟨i, z, hi, hz, hs, hby, hzs⟩ := hT.info
  obtain ⟨css, h1, hl, h2⟩ := h
  obtain ⟨v', w', hrun, hown, hg, _, hat⟩ := run_append_own_at (P := P) w lo t ty e i z K.sz by_ hT.1 hi hz hs hby hzs h0 v xs.length css.flatten h1 ad 1 c cs (by rw [K.len hx, Nat.one_mul]) (fun j u hu => hc j u hu) (K.one hx) hlen' hlen hb
  refine runK_of hrun (hk v' w' ?_ ⟨hg.os, hg.tape, hg.output, hg.size, fun k hk hn => hg.block k hk (fun e => hn e.symm)⟩ hat)
  refine ⟨css ++ [cs], ?_, by simp [hl], fun j y hy => ?_⟩
  · rw [List.length_append, List.flatten_append]
    simpa using hown
  · have mv : ∀ {y : α} {vs : List Value}, K.rep (fun k => U k ∧ v.ownBlock ≠ some k) w y vs → K.rep (fun k => U k ∧ v'.ownBlock ≠ some k) w' y vs := by
      intro y vs hy
      refine K.ext (K.mono hy (U' := fun k => U k ∧ v.ownBlock ≠ some k ∧ v'.ownBlock ≠ some k) fun k hlt hu => ⟨hu.1, hu.2, ?_⟩) (fun k hu hlt => hg.block k hlt (fun e => hu.2.1 e.symm)) |> fun q => K.mono q fun k _ hu => ⟨hu.1, hu.2.2⟩
      rcases hat with e | e
      · rw [e]; exact hu.2
      · rw [e]; intro e'; cases e'; omega
    rw [List.getElem?_append] at hy
    split at hy
    · obtain ⟨vs, ha, hr⟩ := h2 j y hy
      exact ⟨vs, by rw [List.getElem?_append_left (by omega)]; exact ha, mv hr⟩
    · rename_i hge
      have hj := (List.getElem?_eq_some_iff.1 hy).1
      have : j = xs.length := by simp at hj; omega
      subst this
      rw [Nat.sub_self] at hy
      cases hy
      exact ⟨cs, by rw [List.getElem?_append_right (by omega), hl, Nat.sub_self]; rfl, mv hx⟩

theorem append_ownR {α : Type} {K : Kind α} {t e ty sz by_ : Nat} {U : Nat → Prop} {lo : Nat} {w : World} {v : Value} {xs : List α} {x : α} {ad : Addr} {c : Nat} {cs : List Value} {k : Value → World → Prop} (hT : ET P t e sz by_) (hsz : K.sz = sz) (h0 : 0 < sz)
    (h : OwnR K e U lo w v xs) (hx : K.rep (fun k => U k ∧ v.ownBlock ≠ some k) w x cs) (hc : CellsAt w ad cs) (hlen : (xs.length + 1) * by_ ≤ 140737488355328) (hlen' : xs.length + 1 ≤ maxLen) (hb : lo ≤ w.heap.size)
    (hk : ∀ v' w', OwnR K e U lo w' v' (xs ++ [x]) → Fx (fun k => v.ownBlock = some k) w w' → k v' w') : appK P #[t, t] ty #[v, .slice (some ad) 1 c] w k :=
  append_ownR_at hT hsz h0 h hx hc hlen hlen' hb fun v' w' a b _ => hk v' w' a b

/-! ### bytes of the call's own -/
theorem OwnI.ne {e : TypeId} {kd : IntKind} {b : Nat} {w : World} {v : Value} {xs : List Int} (h : OwnI e kd b w v xs) {g t : Nat} {cs : Array Value} (hb : Blk w g t cs) (hne : t ≠ e) : v.ownBlock ≠ some g := by
  intro hv
  rcases h.2 with ⟨hv', _⟩ | ⟨g', cap, cur, hv', _, hg, _⟩
  · rw [hv'] at hv; cases hv
  · rw [hv'] at hv
    have : g' = g := by simpa [Value.ownBlock] using hv
    subst this
    have hb' : w.heap[g']? = _ := hb
    rw [hb'] at hg
    cases hg
    exact hne rfl
theorem OwnR.ne {α : Type} {K : Kind α} {e : TypeId} {U : Nat → Prop} {lo : Nat} {w : World} {v : Value} {xs : List α} (h : OwnR K e U lo w v xs) {g t : Nat} {cs : Array Value} (hb : Blk w g t cs) (hne : t ≠ e) : v.ownBlock ≠ some g := by
  intro hv
  obtain ⟨css, h, _⟩ := h
  rcases h.2 with ⟨hv', _⟩ | ⟨g', cap, cur, hv', _, hg, _⟩
  · rw [hv'] at hv; cases hv
  · rw [hv'] at hv
    have : g' = g := by simpa [Value.ownBlock] using hv
    subst this
    have hb' : w.heap[g']? = _ := hb
    rw [hb'] at hg
    cases hg
    exact hne rfl
open Go.Lib in
theorem strCells_nums (s : ByteArray) : strCells s = (s.data.toList.map fun x => (x.toNat : Int)).map (Value.int .u8) := by
  unfold strCells
  rw [List.map_map]
  rfl
open Go.Lib in
/-- A text's bytes are appended. -/
theorem append_str {t u e ty : TypeId} {b : Nat} {w : World} {v : Value} {xs : List Int} {s : ByteArray} {k : Value → World → Prop} (hT : IE P t e .u8 1) (hu : P.underlying u = some .string) (h : OwnI e .u8 b w v xs)
    (hlen : xs.length + s.size ≤ 140737488355328) (hb : b ≤ w.heap.size)
    (hk : ∀ v' w', OwnI e .u8 b w' v' (xs ++ s.data.toList.map fun x => (x.toNat : Int)) → Fx (fun k => some k = v.ownBlock) w w' → k v' w') : appK P #[t, u] ty #[v, .string s] w k := by
  obtain ⟨ht, hi⟩ := hT
  cases hinfo : P.info? e with
  | none => rw [hinfo] at hi; cases hi
  | some i =>
    rw [hinfo] at hi
    simp only [Option.map_some, Option.some.injEq, Prod.mk.injEq] at hi
    obtain ⟨hz, hs, hby⟩ := hi
    obtain ⟨v', w', hrun, hown, hg, _⟩ := run_append_own_string (P := P) w b t u ty e i ht hu hinfo hz hs hby v xs.length (xs.map (Value.int .u8)) h s (by simp only [maxLen]; omega) hlen hb
    refine runK_of hrun (hk v' w' ?_ ⟨hg.os, hg.tape, hg.output, hg.size, fun k hk hn => hg.block k hk hn⟩)
    unfold OwnI
    rw [List.length_append, List.map_append, ← strCells_nums, List.length_map, Array.length_toList]
    exact hown

/-! ### the runes of a text of small bytes -/
def StrIter (w : World) (it : Nat) (s : ByteArray) (pos : Nat) : Prop := w.heap[it]? = some (.stringIter s pos)
theorem rangeS_run {t : TypeId} (ht : P.underlying t = some .string) (s : ByteArray) (w : World) : (Instr.range t (.string s)).run P w = .ok (.pointer (some (At w.heap.size 0))) (w.alloc (.stringIter s 0)) := by
  simp [Instr.range, run_underlying ht, newObj]
  rfl
theorem StrIter.new (w : World) (s : ByteArray) : StrIter (w.alloc (.stringIter s 0)) w.heap.size s 0 := by
  show (w.heap.push _)[w.heap.size]? = _
  simp
@[go_sem] theorem gdS_undef (b : Bool) (K : Fr → World → Prop) (d : Nat) (op : Op) (ty : TypeId) (r : List MI) (f : Fr) (w : World) : gdS undef b P K (some d) op ty r f w = RL P K r (upd f d undef) w := rfl
/-! ### the lesser of two -/
def minK (P : Program) (ats : Array TypeId) (ty : TypeId) (args : Array Value) (w : World) (k : Value → World → Prop) : Prop := runK P (Builtin.min_ ats ty args) w k
@[go_sem ↓] theorem stepK_min (args : Array Operand) (ats : Array TypeId) (ty : TypeId) (f : Fr) (w : World) (k : Value → World → Prop) : stepK P (.call { callee := .builtin .min, args := args, argTypes := ats }) ty f w k = minK P ats ty (args.map (ev f)) w k := rfl
@[go_sem] theorem minK_int (ats : Array TypeId) (ty : TypeId) (kk k2 : IntKind) (x y : Int) (w : World) (k : Value → World → Prop) : minK P ats ty #[.int kk x, .int k2 y] w k = k (.int kk (if y < x then y else x)) w := by
  have hr : (Builtin.min_ ats ty #[.int kk x, .int k2 y]).run P w = .ok (.int kk (if y < x then y else x)) w := run_min_int2 ..
  refine propext ⟨fun ⟨v', w', hr', hk⟩ => ?_, fun hk => ⟨_, _, hr, hk⟩⟩
  rw [hr] at hr'
  cases hr'
  exact hk
/-! ### results that lie in memory -/
def cellL (o : Option Value) (l : Option (List Value)) : Option (List Value) := match o, l with
  | some v, some l => some (v :: l)
  | _, _ => none
@[go_sem] theorem cellL_some (v : Value) (l : List Value) : cellL (some v) (some l) = some (v :: l) := rfl
@[go_sem] theorem resL_cell (a t : Nat) (r : List ResultVar) (f : Fr) (w : World) : resL P (.cell a t :: r) f w = cellL (ldV P w t (f a)) (resL P r f w) := rfl
/-- A struct that was stored whole is loaded. -/
theorem ldP {w : World} {g tb t n : Nat} {cs : Array Value} (hs : shapeOf P t = some (some n)) (h : Blk w g tb cs) (hn : cs.size = n) (vs : List Value) (hv : vs.length = n) : ldV P (putW w g 0 vs) t (.pointer (some (At g 0))) = some (.agg vs.toArray) := by
  have hb := h.put 0 vs
  have e : putC cs 0 vs = vs.toArray := by
    unfold putC
    apply Array.ext'
    simp
    omega
  rw [e] at hb
  exact ldV_agg hs hv hb.cells
/-- A slice is cut to its length, and its room with it. -/
theorem slcK_clip {t e z : Nat} {A : Option Addr} {n c : Nat} {w : World} {k : Value → World → Prop} (ht : P.underlying t = some (.slice e)) (hs : sizeOf1 P e = some z) (hc : n ≤ c) (hk : k (.slice A n n) w) : slcK P t (.slice A n c) none (some (.int .i64 n)) (some (.int .i64 n)) w k := by
  have he : P.elem t = e := by simp [Program.elem, ht]
  have ht' : P.underlying t = some (.slice (P.elem t)) := by rw [he]; exact ht
  have hsz : (sizeOf (P.elem t)).run P w = .ok z w := by
    rw [he]
    unfold sizeOf1 at hs
    cases hi' : P.info? e with
    | none => rw [hi'] at hs; cases hs
    | some i =>
      rw [hi'] at hs
      simp only [Option.map_some, Option.some.injEq] at hs
      simp [sizeOf, typeInfo, hi', hs]
  refine runK_of (v := .slice A n n) (w' := w) ?_ hk
  rw [run_sliceAt_slice w t _ _ _ _ ht', run_slice_hm w t A n c ht' .i64 .i64 n n (by omega) (by omega) (by omega), hsz]
  simp only [Result.andThen_ok, sliced, Int.toNat_natCast, Nat.sub_zero]
  congr 2
  split
  · rfl
  · cases A <;> simp [add_zero']
/-- A function value is called. -/
theorem fnK_eq {g : Nat} (h : hasBody P g = true) (first cap args : Array Value) (w : World) (k : Value → World → Prop) : fnK P (.func (.func g) first cap) args w k = callK P g (first ++ args ++ cap) w k := by
  show (hasBody P g = true ∧ _) = _
  simp [h]
attribute [go_sem] at_add add_zero' Nat.zero_add Nat.add_zero Nat.zero_mul List.getElem?_toArray List.length_cons List.length_nil allOne_nil allOne_cons Bool.and_true Bool.true_and List.append_toArray List.cons_append List.nil_append List.append_nil
attribute [go_sem] not_false_eq_true List.map_toArray List.map_cons List.map_nil Option.isSome_some Int.toNat_natCast Bool.not_true Bool.not_false Nat.mul_one decide_true decide_false Bool.false_eq_true List.getElem?_cons_zero List.getElem?_cons_succ Option.map_some Option.map_none
end Go.Proofs.Ytnlibeaainbipaa.M
