/- Maps with whole numbers for keys, as the machine holds them: looking up, laying in, taking out. Conditions: the map's block is known. -/
import Derived.Test.YtdnlnaeonhbfiaaMstr
namespace Go.Proofs.Ytdnlnaeonhbfiaa.M
variable {P : Program}

/-- A map's entries. -/
structure Ent where
  key : Int
  val : Value
  born : Nat
def ents (kd : IntKind) (l : List Ent) : Array MapEntry := (l.map fun e => ({ key := .int kd e.key, val := e.val, born := e.born } : MapEntry)).toArray
def MapB (w : World) (m : Nat) (kd : IntKind) (l : List Ent) (clock : Nat) : Prop := w.heap[m]? = some (.map (ents kd l) clock)
def fnd (x : Int) : List Ent → Nat → Option (Nat × Value)
  | [], _ => none
  | e :: r, i => if x = e.key then some (i, e.val) else fnd x r (i + 1)
theorem findNow_ents (kd : IntKind) (x : Int) : ∀ (l : List Ent) (i : Nat), Instr.findNow (.int kd) (.int kd x) (l.map fun e => ({ key := .int kd e.key, val := e.val, born := e.born } : MapEntry)) i = some (fnd x l i)
  | [], _ => rfl
  | e :: r, i => by
    simp only [List.map_cons, Instr.findNow, Instr.sameNow, if_true, fnd]
    by_cases h : x = e.key
    · subst h; simp
    · have : (x == e.key) = false := by rw [beq_eq_false_iff_ne]; exact h
      rw [this, if_neg h]
      exact findNow_ents kd x r (i + 1)
theorem findKey_ents {k : TypeId} {kd : IntKind} (hk : P.underlying k = some (.int kd)) (x : Int) (l : List Ent) (w : World) : (Instr.findKey k (.int kd x) (ents kd l).toList).run P w = .ok (fnd x l 0) w := by
  simp only [Instr.findKey, Sem.run_bind, run_underlying hk, Result.andThen, ents, findNow_ents]
  rfl
theorem checkKey_int {k : TypeId} {kd : IntKind} (hk : P.underlying k = some (.int kd)) (b : Bool) (x : Int) (w : World) : (Instr.checkKey b 10000 k (.int kd x)).run P w = .ok () w := by
  have : ∀ n, (Instr.checkKey b (n + 1) k (.int kd x)).run P w = .ok () w := by
    intro n
    unfold Instr.checkKey
    rw [Sem.run_bind, run_underlying hk]
    rfl
  exact this 9999
theorem run_getMap {w : World} {m : Nat} {es : Array MapEntry} {clock : Nat} (h : w.heap[m]? = some (.map es clock)) : (getObj m).run P w = .ok (.map es clock) w := by
  simp [getObj, Sem.run, h]
theorem lookup_run {t k e : TypeId} {kd : IntKind} (ht : P.underlying t = some (.map k e)) (hk : P.underlying k = some (.int kd)) {w : World} {m : Nat} {l : List Ent} {clock : Nat} (h : MapB w m kd l clock) (x : Int) {z : Value} (hz : (zeroValue e).run P w = .ok z w) :
    (Instr.lookup t (.map (some m)) (.int kd x) false).run P w = .ok ((fnd x l 0).elim z (·.2)) w := by
  simp only [Instr.lookup, Sem.run_bind, run_underlying ht, Result.andThen, run_getMap h, checkKey_int hk, findKey_ents hk, Sem.run_pure]
  cases fnd x l 0 <;> simp [hz, Sem.run_pure]
/-- A map's block is laid anew. -/
def setMap (w : World) (m : Nat) (kd : IntKind) (l : List Ent) (clock : Nat) : World := { w with heap := w.heap.setIfInBounds m (.map (ents kd l) clock) }
theorem MapB.set {w : World} {m : Nat} {kd : IntKind} {l : List Ent} {clock : Nat} (h : MapB w m kd l clock) (l' : List Ent) (c' : Nat) : MapB (setMap w m kd l' c') m kd l' c' := by
  have hlt := (Array.getElem?_eq_some_iff.1 h).1
  unfold MapB setMap
  simp [hlt]
theorem Fx.setMap {w : World} {m : Nat} {kd : IntKind} (l' : List Ent) (c' : Nat) : Fx (fun k => k = m) w (M.setMap w m kd l' c') :=
  ⟨rfl, rfl, rfl, by simp [M.setMap], fun k _ hn => by
    have : m ≠ k := fun e => hn e.symm
    simp [M.setMap, this]⟩
theorem run_setMap {w : World} {m : Nat} {kd : IntKind} {l : List Ent} {clock : Nat} (h : MapB w m kd l clock) (l' : List Ent) (c' : Nat) : (setObj m (.map (ents kd l') c')).run P w = .ok () (setMap w m kd l' c') := by
  have h' : w.heap[m]? = _ := h
  simp [setObj, Sem.run, h', setMap]
/-- A key that the map does not hold is laid in, last. -/
theorem update_run {t k e : TypeId} {kd : IntKind} (ht : P.underlying t = some (.map k e)) (hk : P.underlying k = some (.int kd)) {w : World} {m : Nat} {l : List Ent} {clock : Nat} (h : MapB w m kd l clock) {x : Int} (hn : fnd x l 0 = none) (v : Value) :
    (Instr.mapUpdate t (.map (some m)) (.int kd x) v).run P w = .ok () (setMap w m kd (l ++ [⟨x, v, clock⟩]) (clock + 1)) := by
  have hs := run_setMap (P := P) h (l ++ [⟨x, v, clock⟩]) (clock + 1)
  have hp : (ents kd l).push { key := .int kd x, val := v, born := clock } = ents kd (l ++ [⟨x, v, clock⟩]) := by simp [ents]
  simp only [Instr.mapUpdate, Sem.run_bind, run_underlying ht, Result.andThen, run_getMap h, checkKey_int hk, findKey_ents hk, hn, hp, hs]
theorem erase_map {α β : Type} (f : α → β) : ∀ (l : List α) (i : Nat), (l.map f).eraseIdx i = (l.eraseIdx i).map f
  | [], i => by simp
  | a :: l, 0 => rfl
  | a :: l, i + 1 => by simp [erase_map f l i]
def del (x : Int) (l : List Ent) : List Ent := match fnd x l 0 with
  | some (i, _) => l.eraseIdx i
  | none => l
theorem delete_run {t k e ty : TypeId} {kd : IntKind} (ht : P.underlying t = some (.map k e)) (hk : P.underlying k = some (.int kd)) {w : World} {m : Nat} {l : List Ent} {clock : Nat} (h : MapB w m kd l clock) (x : Int) (k2 : TypeId) :
    (Builtin.delete_ #[t, k2] ty #[.map (some m), .int kd x]).run P w = .ok (.tuple #[]) (setMap w m kd (del x l) clock) := by
  have hs := run_setMap (P := P) h (del x l) clock
  unfold del at hs ⊢
  cases hf : fnd x l 0 with
  | none =>
    rw [hf] at hs
    simp [Builtin.delete_, run_underlying ht, run_getMap h, checkKey_int hk, findKey_ents hk, hf, hs]
  | some p =>
    obtain ⟨i, v⟩ := p
    rw [hf] at hs
    have hp : (ents kd l).eraseIdxIfInBounds i = ents kd (l.eraseIdx i) := by
      apply Array.ext'
      simp [ents, erase_map]
    simp [Builtin.delete_, run_underlying ht, run_getMap h, checkKey_int hk, findKey_ents hk, hf, hs, hp]
theorem len_run {t k e ty : TypeId} {kd : IntKind} (ht : P.underlying t = some (.map k e)) {w : World} {m : Nat} {l : List Ent} {clock : Nat} (h : MapB w m kd l clock) :
    (Builtin.len_ #[t] ty #[.map (some m)]).run P w = .ok (.int .i64 l.length) w := by
  have : (ents kd l).size = l.length := by simp [ents]
  simp [Builtin.len_, run_underlying ht, run_getMap h, goInt, this]
theorem makeMap_run (t : TypeId) (w : World) : (Instr.makeMap t none).run P w = .ok (.map (some w.heap.size)) (w.alloc (.map #[] 0)) := rfl
theorem MapB.new (w : World) (kd : IntKind) : MapB (w.alloc (.map #[] 0)) w.heap.size kd [] 0 := by
  show (w.heap.push _)[w.heap.size]? = _
  simp [ents]
end Go.Proofs.Ytdnlnaeonhbfiaa.M
