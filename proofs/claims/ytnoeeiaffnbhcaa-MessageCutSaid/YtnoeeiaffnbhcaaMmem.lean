/- Blocks of memory, and what a call leaves as it was. Conditions: none beyond those that each theorem names. -/
import Derived.Test.YtnoeeiaffnbhcaaMrun
import Derived.Below
namespace Go.Proofs.Ytnoeeiaffnbhcaa.M
open Go.RowKit
variable {P : Program}

theorem stCells_one {w : World} {a : Addr} {v : Value} (hc : (w.cell? a).isSome = true) (hf : w.frozen? a = false) (h1 : v.oneCell' = true) : stCells w a 0 [v] = some (w.setCell a v) := by
  have e : a.add 0 = a := by simp [Addr.add]
  simp [stCells, e, hc, hf, h1]
theorem cells_one {v : Value} (h : v.oneCell' = true) : v.cells = #[v] := by
  cases v <;> first | rfl | (cases h; done)
theorem stV_one {w : World} {t : TypeId} (a : Addr) (v : Value) (hz : sizeOf1 P t = some 1) (hc : (w.cell? a).isSome = true) (hf : w.frozen? a = false) (h1 : v.oneCell' = true) : stV P w t (.pointer (some a)) v = some (w.setCell a v) := by
  have e := cells_one h1
  show (if sizeOf1 P t = some v.cells.size then stCells w a 0 v.cells.toList else none) = _
  rw [e, if_pos (by rw [hz]; rfl)]
  exact stCells_one hc hf h1
@[go_sem] theorem one_int (k : IntKind) (n : Int) : (Value.int k n).oneCell' = true := rfl
@[go_sem] theorem one_bool (b : Bool) : (Value.bool b).oneCell' = true := rfl
@[go_sem] theorem one_str (b : ByteArray) : (Value.string b).oneCell' = true := rfl
@[go_sem] theorem one_ptr (a : Option Addr) : (Value.pointer a).oneCell' = true := rfl
@[go_sem] theorem one_slice (a : Option Addr) (n c : Nat) : (Value.slice a n c).oneCell' = true := rfl
@[go_sem] theorem one_func (f : Fn) (a b : Array Value) : (Value.func f a b).oneCell' = true := rfl

/-- The cells of a block that may be written. -/
def Blk (w : World) (g : Nat) (t : TypeId) (cs : Array Value) : Prop := w.heap[g]? = some (.cells cs t (0, 0))
theorem Blk.cell {w : World} {g : Nat} {t : TypeId} {cs : Array Value} (h : Blk w g t cs) (i : Nat) : w.cell? ⟨g, i, none⟩ = cs[i]? := by
  simp [World.cell?, show w.heap[g]? = _ from h]
theorem Blk.frozen {w : World} {g : Nat} {t : TypeId} {cs : Array Value} (h : Blk w g t cs) (i : Nat) : w.frozen? ⟨g, i, none⟩ = false := by
  simp [World.frozen?, show w.heap[g]? = _ from h]
theorem Blk.lt {w : World} {g : Nat} {t : TypeId} {cs : Array Value} (h : Blk w g t cs) : g < w.heap.size := (Array.getElem?_eq_some_iff.1 h).1
theorem Blk.set {w : World} {g : Nat} {t : TypeId} {cs : Array Value} (h : Blk w g t cs) (i : Nat) (v : Value) : Blk (w.setCell ⟨g, i, none⟩ v) g t (cs.setIfInBounds i v) := by
  unfold Blk World.setCell
  have h' : w.heap[g]? = _ := h
  simp [Array.getElem?_modify, h']
theorem Blk.set_ne {w : World} {g g' : Nat} {t : TypeId} {cs : Array Value} (h : Blk w g t cs) (hne : g' ≠ g) (i : Nat) (v : Value) : Blk (w.setCell ⟨g', i, none⟩ v) g t cs := by
  unfold Blk World.setCell
  have h' : w.heap[g]? = _ := h
  simp [Array.getElem?_modify, hne, h']
theorem Blk.new (w : World) (t : TypeId) (cs : Array Value) : Blk (w.alloc (.cells cs t)) w.heap.size t cs := by
  unfold Blk World.alloc
  simp
theorem Blk.alloc {w : World} {g : Nat} {t : TypeId} {cs : Array Value} (h : Blk w g t cs) (o : Obj) : Blk (w.alloc o) g t cs := by
  have := h.lt
  unfold Blk World.alloc at *
  rw [Array.getElem?_push, if_neg (by omega)]
  exact h
theorem Blk.drew {w : World} {g : Nat} {t : TypeId} {cs : Array Value} (h : Blk w g t cs) : Blk w.drew g t cs := h

/-- What is not in m stands as it stood. -/
structure Fx (m : Nat → Prop) (w w' : World) : Prop where
  os : w'.os = w.os
  tape : w'.tape = w.tape
  output : w'.output = w.output
  size : w.heap.size ≤ w'.heap.size
  block : ∀ k, k < w.heap.size → ¬ m k → w'.heap[k]? = w.heap[k]?
theorem Fx.refl (m : Nat → Prop) (w : World) : Fx m w w := ⟨rfl, rfl, rfl, Nat.le_refl _, fun _ _ _ => rfl⟩
/-- What the second call may write is what the first may, or new. -/
theorem Fx.trans {m m' : Nat → Prop} {w w1 w2 : World} (h : Fx m w w1) (h' : Fx m' w1 w2) (hm : ∀ k, k < w.heap.size → m' k → m k) : Fx m w w2 :=
  ⟨h'.os.trans h.os, h'.tape.trans h.tape, h'.output.trans h.output, Nat.le_trans h.size h'.size, fun k hk hn => (h'.block k (Nat.lt_of_lt_of_le hk h.size) (fun hx => hn (hm k hk hx))).trans (h.block k hk hn)⟩
theorem Fx.weaken {m m' : Nat → Prop} {w w' : World} (h : Fx m w w') (hm : ∀ k, k < w.heap.size → m k → m' k) : Fx m' w w' :=
  ⟨h.os, h.tape, h.output, h.size, fun k hk hn => h.block k hk (fun hx => hn (hm k hk hx))⟩
theorem Fx.alloc (m : Nat → Prop) (w : World) (o : Obj) : Fx m w (w.alloc o) := ⟨rfl, rfl, rfl, by show w.heap.size ≤ (w.heap.push o).size; simp, fun k hk _ => by
  show (w.heap.push o)[k]? = _
  rw [Array.getElem?_push, if_neg (by omega)]⟩
theorem Fx.drew (m : Nat → Prop) (w : World) : Fx m w w.drew := ⟨rfl, rfl, rfl, Nat.le_refl _, fun _ _ _ => rfl⟩
theorem Fx.set {m : Nat → Prop} (w : World) (a : Addr) (v : Value) (hm : m a.block) : Fx m w (w.setCell a v) :=
  ⟨rfl, rfl, rfl, by simp [World.setCell], fun k _ hn => by
    have : a.block ≠ k := fun e => hn (e ▸ hm)
    simp [World.setCell, Array.getElem?_modify, this]⟩
theorem Fx.blk {m : Nat → Prop} {w w' : World} (h : Fx m w w') {g : Nat} {t : TypeId} {cs : Array Value} (hb : Blk w g t cs) (hn : ¬ m g) : Blk w' g t cs := (h.block g hb.lt hn).trans hb
theorem Fx.below {w w' : World} (h : Fx (fun _ => False) w w') : Below w.heap.size w w' := ⟨h.os, h.tape, h.output, h.size, fun k hk => h.block k hk (fun x => x)⟩
theorem Fx.belowB {m : Nat → Prop} {B : Nat} {w0 w w' : World} (h0 : Below B w0 w) (h : Fx m w w') (hB : B ≤ w.heap.size) (hm : ∀ k, k < B → ¬ m k) : Below B w0 w' :=
  ⟨h.os.trans h0.os, h.tape.trans h0.tape, h.output.trans h0.output, Nat.le_trans h0.size h.size, fun k hk => (h.block k (Nat.lt_of_lt_of_le hk hB) (hm k hk)).trans (h0.block k hk)⟩
theorem Fx.of_below {m : Nat → Prop} {w w' : World} (h : Below w.heap.size w w') : Fx m w w' := ⟨h.os, h.tape, h.output, h.size, fun k hk _ => h.block k hk⟩
theorem Fx.of_grown {w w' : World} {r : Option Nat} (h : w.grownBy w' r) : Fx (fun k => some k = r) w w' := ⟨h.os, h.tape, h.output, h.size, fun k hk hn => h.block k hk hn⟩
end Go.Proofs.Ytnoeeiaffnbhcaa.M
