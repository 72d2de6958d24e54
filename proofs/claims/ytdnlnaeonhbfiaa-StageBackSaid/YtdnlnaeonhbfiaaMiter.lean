/- A loop over a map's entries: the iterator hands out, in whatever order, an entry that is left. Conditions: every entry is older than the loop. -/
import Derived.Test.YtdnlnaeonhbfiaaMmap
import Derived.Laws.IdiomRangeMap
namespace Go.Proofs.Ytdnlnaeonhbfiaa.M
variable {P : Program}

def IterB (w : World) (it m since : Nat) (seen : Array Nat) (last : Nat) : Prop := w.heap[it]? = some (.mapIter (some m) since seen last)
def setIter (w : World) (it m since : Nat) (seen : Array Nat) (last : Nat) : World := { w with heap := w.heap.setIfInBounds it (.mapIter (some m) since seen last) }
def leftE (l : List Ent) (seen : Array Nat) : List Ent := l.filter fun e => !seen.contains e.born

theorem next_run {w : World} {it m : Nat} {kd : IntKind} {l : List Ent} {clock : Nat} {seen : Array Nat} {ty : TypeId} (hm : MapB w m kd l clock) (hi : IterB w it m clock seen clock) (hold : ∀ e ∈ l, e.born < clock) :
    (leftE l seen = [] ∧ (Instr.next (.pointer (some ⟨it, 0, none⟩)) false ty).run P w = .ok (.tuple #[.bool false]) w) ∨
    ∃ e ∈ leftE l seen, ∃ w1, (w1 = w ∨ w1 = w.drew) ∧ (Instr.next (.pointer (some ⟨it, 0, none⟩)) false ty).run P w = .ok (.tuple #[.bool true, .int kd e.key, e.val]) (setIter w1 it m clock (seen.push e.born) clock) := by
  have hm' : w.heap[m]? = _ := hm
  have hi' : w.heap[it]? = _ := hi
  have hold' : ∀ x ∈ (ents kd l).toList, x.born < clock := by
    intro x hx
    simp only [ents, List.mem_map] at hx
    obtain ⟨e, he, rfl⟩ := hx
    exact hold e he
  simp only [Instr.next, getObj, Sem.run_bind, Sem.run, hi', hm', Result.andThen, next_test_false seen (ents kd l) clock clock hold' (Nat.le_refl _), Bool.false_eq_true, if_false]
  have hL : (ents kd l).filter (fun e => !seen.contains e.born) = ents kd (leftE l seen) := by
    apply Array.ext'
    simp [ents, leftE, List.filter_map, Function.comp_def]
  rw [hL]
  have hmem : ∀ x ∈ ents kd (leftE l seen), x.born < clock := by
    intro x hx
    simp only [ents, List.mem_toArray, List.mem_map, leftE, List.mem_filter] at hx
    obtain ⟨e, he, rfl⟩ := hx
    exact hold e he.1
  have e1 : (ents kd (leftE l seen)).filter (fun x => decide (x.born < clock)) = ents kd (leftE l seen) := Array.filter_eq_self.2 (fun x hx => by simpa using hmem x hx)
  have e2 : (ents kd (leftE l seen)).filter (fun x => decide (x.born ≥ clock)) = #[] := by
    rw [Array.filter_eq_empty_iff]
    intro x hx
    have := hmem x hx
    simp
    omega
  simp only [e1, e2, Array.append_empty]
  generalize hLL : leftE l seen = L at *
  have hset : ∀ (w1 : World) (s : Array Nat), (w1 = w ∨ w1 = w.drew) → (setObj it (.mapIter (some m) clock s clock)).run P w1 = .ok () (setIter w1 it m clock s clock) := by
    intro w1 s h
    have : w1.heap[it]? = w.heap[it]? := by rcases h with rfl | rfl <;> rfl
    simp only [setObj, Sem.run, this, hi', setIter]
  by_cases h0 : L = []
  · left
    subst h0
    refine ⟨rfl, ?_⟩
    simp [ents, choose, Sem.run, Question.forced]
  · right
    have hsz : (ents kd L).size = L.length := by simp [ents]
    have hpos : 0 < L.length := List.length_pos_iff.2 h0
    have hne : (ents kd L).isEmpty = false := by simp [Array.isEmpty, hsz]; exact h0
    simp only [hne, Bool.false_eq_true, if_false, Array.empty_append, Array.size_map, hsz]
    have hch : ∃ (j : Nat) (w1 : World), j < L.length ∧ (w1 = w ∨ w1 = w.drew) ∧ (choose (Question.mapNext L.length)).run P w = .ok j w1 := by
      by_cases hf : L.length ≤ 1
      · exact ⟨0, w, by omega, .inl rfl, by simp [choose, Sem.run, Question.forced, hf]⟩
      · exact ⟨_, w.drew, Nat.mod_lt _ (by omega), .inr rfl, by
          simp only [choose, Sem.run, Question.forced, decide_eq_true_eq, hf, if_false, Question.cut]
          rfl⟩
    obtain ⟨j, w1, hj, hw, hrun⟩ := hch
    refine ⟨L[j], List.getElem_mem hj, w1, hw, ?_⟩
    have hat : (ents kd L)[j]? = some { key := .int kd L[j].key, val := L[j].val, born := L[j].born } := by simp [ents, hj]
    simp only [hrun, Array.getElem?_map, hat, Option.map_some, Sem.run_bind, hset w1 _ hw, Result.andThen]
    rfl
theorem IterB.set {w w1 : World} {it m since : Nat} {seen : Array Nat} {last : Nat} (h : IterB w it m since seen last) (hw : w1 = w ∨ w1 = w.drew) (s : Array Nat) : IterB (setIter w1 it m since s last) it m since s last := by
  have hlt := (Array.getElem?_eq_some_iff.1 h).1
  have : w1.heap = w.heap := by rcases hw with rfl | rfl <;> rfl
  unfold IterB setIter
  simp [this, hlt]
theorem Fx.setIter {w w1 : World} (it m since : Nat) (s : Array Nat) (last : Nat) (hw : w1 = w ∨ w1 = w.drew) : Fx (fun k => k = it) w (M.setIter w1 it m since s last) := by
  have h1 : w1.heap = w.heap := by rcases hw with rfl | rfl <;> rfl
  have h2 : w1.os = w.os := by rcases hw with rfl | rfl <;> rfl
  have h3 : w1.tape = w.tape := by rcases hw with rfl | rfl <;> rfl
  have h4 : w1.output = w.output := by rcases hw with rfl | rfl <;> rfl
  exact ⟨h2, h3, h4, by simp [M.setIter, h1], fun k _ hn => by
    have : it ≠ k := fun e => hn e.symm
    simp [M.setIter, h1, this]⟩
theorem range_run {t k e : TypeId} {kd : IntKind} (ht : P.underlying t = some (.map k e)) {w : World} {m : Nat} {l : List Ent} {clock : Nat} (h : MapB w m kd l clock) :
    (Instr.range t (.map (some m))).run P w = .ok (.pointer (some ⟨w.heap.size, 0, none⟩)) (w.alloc (.mapIter (some m) clock #[] clock)) := run_range_map w t k e m _ clock ht h
theorem find_ents (kd : IntKind) {e : Ent} : ∀ {l : List Ent}, (l.map (·.born)).Nodup → e ∈ l → (l.map fun e => ({ key := .int kd e.key, val := e.val, born := e.born } : MapEntry)).find? (·.born == e.born) = some { key := .int kd e.key, val := e.val, born := e.born }
  | x :: l, hn, he => by
    obtain ⟨h1, h2⟩ := List.nodup_cons.1 hn
    rcases List.mem_cons.1 he with rfl | h
    · simp
    · have : (x.born == e.born) = false := by
        rw [beq_eq_false_iff_ne]
        intro hx
        exact h1 (by show x.born ∈ _; rw [hx]; exact List.mem_map_of_mem (f := fun y : Ent => y.born) h)
      simp only [List.map_cons, List.find?_cons, this]
      exact find_ents kd h2 h
theorem entry_run {w : World} {it m since : Nat} {kd : IntKind} {l : List Ent} {clock : Nat} {seen : Array Nat} {e : Ent} (hm : MapB w m kd l clock) (hi : IterB w it m since (seen.push e.born) clock) (hn : (l.map (·.born)).Nodup) (he : e ∈ l) :
    (Instr.entry (.pointer (some ⟨it, 0, none⟩))).run P w = .ok (.tuple #[.int kd e.key, e.val]) w := by
  have hm' : w.heap[m]? = _ := hm
  have hi' : w.heap[it]? = _ := hi
  have hf : (ents kd l).find? (·.born == e.born) = some { key := .int kd e.key, val := e.val, born := e.born } := by
    rw [← Array.find?_toList]
    exact find_ents kd hn he
  simp [Instr.entry, getObj, Sem.run, hi', hm', hf]
end Go.Proofs.Ytdnlnaeonhbfiaa.M
