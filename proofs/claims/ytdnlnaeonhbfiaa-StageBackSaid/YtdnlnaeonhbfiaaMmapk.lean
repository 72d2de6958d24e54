/- Maps and texts in a walk: the walk stops at each operation on them, and each is stepped over by what is known of the map, or the text. Conditions: those that each theorem names. -/
import Derived.Test.YtdnlnaeonhbfiaaMext
import Derived.Test.YtdnlnaeonhbfiaaMiter
namespace Go.Proofs.Ytdnlnaeonhbfiaa.M
variable {P : Program}

def lenMK (P : Program) (ats : Array TypeId) (ty : TypeId) (args : Array Value) (w : World) (k : Value → World → Prop) : Prop := runK P (Builtin.len_ ats ty args) w k
def lookK (P : Program) (t : TypeId) (x i : Value) (ok : Bool) (w : World) (k : Value → World → Prop) : Prop := runK P (Instr.lookup t x i ok) w k
def updK (P : Program) (t : TypeId) (m i x : Value) (w : World) (k : Value → World → Prop) : Prop := runU P (Instr.mapUpdate t m i x) w k
def delK (P : Program) (ats : Array TypeId) (ty : TypeId) (args : Array Value) (w : World) (k : Value → World → Prop) : Prop := runK P (Builtin.delete_ ats ty args) w k
def rngK (P : Program) (t : TypeId) (x : Value) (w : World) (k : Value → World → Prop) : Prop := runK P (Instr.range t x) w k
def nxtK (P : Program) (x : Value) (b : Bool) (ty : TypeId) (w : World) (k : Value → World → Prop) : Prop := runK P (Instr.next x b ty) w k
def entK (P : Program) (x : Value) (w : World) (k : Value → World → Prop) : Prop := runK P (Instr.entry x) w k
section
variable (w : World) (k : Value → World → Prop)
@[go_sem ↓] theorem lenMK_in (ats : Array TypeId) (ty : TypeId) (args : Array Value) : runK P (Builtin.len_ ats ty args) w k = lenMK P ats ty args w k := rfl
@[go_sem ↓] theorem lookK_in (t : TypeId) (x i : Value) (ok : Bool) : runK P (Instr.lookup t x i ok) w k = lookK P t x i ok w k := rfl
@[go_sem ↓] theorem updK_in (t : TypeId) (m i x : Value) : runU P (Instr.mapUpdate t m i x) w k = updK P t m i x w k := rfl
@[go_sem ↓] theorem delK_in (ats : Array TypeId) (ty : TypeId) (args : Array Value) : runK P (Builtin.delete_ ats ty args) w k = delK P ats ty args w k := rfl
@[go_sem ↓] theorem rngK_in (t : TypeId) (x : Value) : runK P (Instr.range t x) w k = rngK P t x w k := rfl
@[go_sem ↓] theorem nxtK_in (x : Value) (b : Bool) (ty : TypeId) : runK P (Instr.next x b ty) w k = nxtK P x b ty w k := rfl
@[go_sem ↓] theorem entK_in (x : Value) : runK P (Instr.entry x) w k = entK P x w k := rfl
@[go_sem ↓] theorem stepK_entry (x : Operand) (ty : TypeId) (f : Fr) : stepK P (.entry x) ty f w k = entK P (ev f x) w k := rfl
@[go_sem ↓] theorem mkmap_eq (t : TypeId) : runK P (Instr.makeMap t none) w k = k (.map (some w.heap.size)) (w.alloc (.map #[] 0)) := by
  refine propext ⟨fun ⟨v', w', hr, hk⟩ => ?_, fun hk => ⟨_, _, makeMap_run t w, hk⟩⟩
  rw [makeMap_run] at hr
  cases hr
  exact hk
end
section
variable {t kt e : TypeId} {kd : IntKind} {w : World} {m : Nat} {l : List Ent} {clock : Nat} {k : Value → World → Prop}
theorem lenMK_of {ty : TypeId} (ht : P.underlying t = some (.map kt e)) (h : MapB w m kd l clock) (hk : k (.int .i64 l.length) w) : lenMK P #[t] ty #[.map (some m)] w k := runK_of (len_run ht h) hk
theorem lookK_of (ht : P.underlying t = some (.map kt e)) (hkt : P.underlying kt = some (.int kd)) (h : MapB w m kd l clock) (x : Int) {z : Value} (hz : (zeroValue e).run P w = .ok z w) (hk : k ((fnd x l 0).elim z (·.2)) w) : lookK P t (.map (some m)) (.int kd x) false w k :=
  runK_of (lookup_run ht hkt h x hz) hk
theorem updK_of (ht : P.underlying t = some (.map kt e)) (hkt : P.underlying kt = some (.int kd)) (h : MapB w m kd l clock) {x : Int} (hn : fnd x l 0 = none) (v : Value) (hk : k undef (setMap w m kd (l ++ [⟨x, v, clock⟩]) (clock + 1))) : updK P t (.map (some m)) (.int kd x) v w k :=
  runU_of (update_run ht hkt h hn v) hk
theorem delK_of {ty k2 : TypeId} (ht : P.underlying t = some (.map kt e)) (hkt : P.underlying kt = some (.int kd)) (h : MapB w m kd l clock) (x : Int) (hk : k (.tuple #[]) (setMap w m kd (del x l) clock)) : delK P #[t, k2] ty #[.map (some m), .int kd x] w k :=
  runK_of (delete_run ht hkt h x k2) hk
theorem rngK_of (ht : P.underlying t = some (.map kt e)) (h : MapB w m kd l clock) (hk : k (.pointer (some (At w.heap.size 0))) (w.alloc (.mapIter (some m) clock #[] clock))) : rngK P t (.map (some m)) w k := runK_of (range_run ht h) hk
theorem nxtK_of {it : Nat} {seen : Array Nat} {ty : TypeId} (hm : MapB w m kd l clock) (hi : IterB w it m clock seen clock) (hold : ∀ e ∈ l, e.born < clock)
    (h0 : leftE l seen = [] → k (.tuple #[.bool false]) w) (h1 : ∀ e ∈ leftE l seen, ∀ w1, (w1 = w ∨ w1 = w.drew) → k (.tuple #[.bool true, .int kd e.key, e.val]) (setIter w1 it m clock (seen.push e.born) clock)) : nxtK P (.pointer (some (At it 0))) false ty w k := by
  rcases next_run (P := P) (ty := ty) hm hi hold with ⟨he, hr⟩ | ⟨e, he, w1, hw, hr⟩
  · exact runK_of hr (h0 he)
  · exact runK_of hr (h1 e he w1 hw)
theorem entK_of {it since : Nat} {seen : Array Nat} {e : Ent} (hm : MapB w m kd l clock) (hi : IterB w it m since (seen.push e.born) clock) (hn : (l.map (·.born)).Nodup) (he : e ∈ l) (hk : k (.tuple #[.int kd e.key, e.val]) w) : entK P (.pointer (some (At it 0))) w k :=
  runK_of (entry_run hm hi hn he) hk
end
theorem MapB.fx {w w' : World} {m : Nat} {kd : IntKind} {l : List Ent} {clock : Nat} {b : Nat → Prop} (h : MapB w m kd l clock) (hf : Fx b w w') (hn : ¬ b m) : MapB w' m kd l clock := by
  have hlt := (Array.getElem?_eq_some_iff.1 h).1
  exact (hf.block m hlt hn).trans h
theorem MapB.lt {w : World} {m : Nat} {kd : IntKind} {l : List Ent} {clock : Nat} (h : MapB w m kd l clock) : m < w.heap.size := (Array.getElem?_eq_some_iff.1 h).1
theorem MapB.ne {w : World} {m g t : Nat} {kd : IntKind} {l : List Ent} {clock : Nat} {cs : Array Value} (h : MapB w m kd l clock) (hb : Blk w g t cs) : m ≠ g := by
  rintro rfl
  have h' : w.heap[m]? = _ := h
  have hb' : w.heap[m]? = _ := hb
  rw [h'] at hb'
  cases hb'
theorem OwnI.ne_map {e : TypeId} {kd kd' : IntKind} {b : Nat} {w : World} {v : Value} {xs : List Int} (h : OwnI e kd b w v xs) {m : Nat} {l : List Ent} {clock : Nat} (hm : MapB w m kd' l clock) : v.ownBlock ≠ some m := by
  intro hv
  rcases h.2 with ⟨hv', _⟩ | ⟨g', cap, cur, hv', _, hg, _⟩
  · rw [hv'] at hv; cases hv
  · rw [hv'] at hv
    have : g' = m := by simpa [Value.ownBlock] using hv
    subst this
    have h' : w.heap[g']? = _ := hm
    rw [h'] at hg
    cases hg
theorem IterB.fx {w w' : World} {it m since last : Nat} {seen : Array Nat} {b : Nat → Prop} (h : IterB w it m since seen last) (hf : Fx b w w') (hn : ¬ b it) : IterB w' it m since seen last := by
  have hlt := (Array.getElem?_eq_some_iff.1 h).1
  exact (hf.block it hlt hn).trans h
theorem IterB.new (w : World) (m since last : Nat) (seen : Array Nat) : IterB (w.alloc (.mapIter (some m) since seen last)) w.heap.size m since seen last := by
  show (w.heap.push _)[w.heap.size]? = _
  simp

/-! ### pointers against nil -/
theorem bin_peq {t e : TypeId} (ht : P.underlying t = some (.pointer e)) (a : Option Addr) (x y : Operand) {w : World} {k : Value → World → Prop} (hk : k (.bool (a == none)) w) : binK P .eql t x y (.pointer a) (.pointer none) w k := by
  show runK P _ w k
  refine runK_of (v := .bool (a == none)) (w' := w) ?_ hk
  have h1 : (Op.equal t (.pointer a) (.pointer none)).run P w = .ok (a == none) w := by
    have : ∀ d, (Op.equalIn (d + 1) t (.pointer a) (.pointer none)).run P w = .ok (a == none) w := by
      intro d
      unfold Op.equalIn
      rw [Sem.run_bind, run_underlying ht]
      cases a <;> rfl
    exact this 9999
  show (do eqGuard .eql t x y (.pointer a) (.pointer none); (do pure (.bool (← Op.equal t (.pointer a) (.pointer none))) : Sem Value) : Sem Value).run P w = _
  rw [Sem.run_bind]
  show (Result.ok () w).andThen _ = _
  simp only [Result.andThen]
  rw [Sem.run_bind, h1]
  rfl
def peqK (P : Program) (op : BinOp) (t : TypeId) (x y : Operand) (a b : Option Addr) (w : World) (k : Value → World → Prop) : Prop := binK P op t x y (.pointer a) (.pointer b) w k
@[go_sem ↓] theorem peqK_in (op : BinOp) (t : TypeId) (x y : Operand) (a b : Option Addr) (w : World) (k : Value → World → Prop) : binK P op t x y (.pointer a) (.pointer b) w k = peqK P op t x y a b w k := rfl
theorem peqK_of {t e : TypeId} (ht : P.underlying t = some (.pointer e)) {a : Option Addr} {x y : Operand} {w : World} {k : Value → World → Prop} (hk : k (.bool (a == none)) w) : peqK P .eql t x y a none w k := bin_peq ht a x y hk
end Go.Proofs.Ytdnlnaeonhbfiaa.M
