/- Uploads under way, as a plain list. Conditions: none. -/
import Derived.Test.YtdnlnaeonhbfiaaGpure
namespace Go.Proofs.Ytdnlnaeonhbfiaa.V
open Go.RowKit

structure Up where
  n : Int
  owner : Int
  name : ByteArray
  b : List Int
  page : Int
structure Tb where
  l : List Up
  last : Int
def fUp (owner n : Int) : List Up → Nat → Option (Nat × Up)
  | [], _ => none
  | u :: r, i => if u.n = n ∧ u.owner = owner then some (i, u) else fUp owner n r (i + 1)
theorem fUp_some {owner n : Int} : ∀ {l : List Up} {k i : Nat} {u : Up}, fUp owner n l k = some (i, u) → k ≤ i ∧ l[i - k]? = some u ∧ u.n = n ∧ u.owner = owner
  | [], _, _, _, h => by cases h
  | x :: r, k, i, u, h => by
    unfold fUp at h
    split at h
    · rename_i hx
      cases h
      exact ⟨Nat.le_refl _, by simp, hx⟩
    · obtain ⟨h1, h2, h3⟩ := fUp_some h
      refine ⟨by omega, ?_, h3⟩
      rw [show i - k = (i - (k + 1)) + 1 by omega]
      simpa using h2
theorem fUp_none {owner n : Int} : ∀ {l : List Up} {k : Nat}, fUp owner n l k = none → ∀ u ∈ l, ¬ (u.n = n ∧ u.owner = owner)
  | [], _, _, _, hu => by simp at hu
  | x :: r, k, h, u, hu => by
    unfold fUp at h
    split at h
    · cases h
    · rename_i hx
      rcases List.mem_cons.1 hu with rfl | hu
      · exact hx
      · exact fUp_none h u hu
def tBegin (T : Tb) (owner : Int) (name : ByteArray) : Int × Int × Tb := if 4 ≤ T.l.length then (0, 4, T) else (T.last + 1, 0, ⟨T.l ++ [⟨T.last + 1, owner, name, [], 0⟩], T.last + 1⟩)
def tChunk (T : Tb) (owner n page : Int) (b : List Int) : Int × Tb := match fUp owner n T.l 0 with
  | none => (130, T)
  | some (i, u) => if page = 0 ∨ IntKind.u32.wrap (page - 1) ≠ u.page then (130, T) else if 4096 < u.b.length + b.length then (4, T) else (0, ⟨T.l.set i ⟨u.n, u.owner, u.name, u.b ++ b, IntKind.u32.wrap (u.page + 1)⟩, T.last⟩)
def tCommit (T : Tb) (owner n : Int) : ByteArray × List MChange × Int × Tb := match fUp owner n T.l 0 with
  | none => (⟨#[]⟩, [], 130, T)
  | some (i, u) => if (getChanges u.b).2 = 0 then (u.name, (getChanges u.b).1, 0, ⟨T.l.eraseIdx i, T.last⟩) else (⟨#[]⟩, [], (getChanges u.b).2, ⟨T.l.eraseIdx i, T.last⟩)
def tAbort (T : Tb) (owner n : Int) : Int × Tb := match fUp owner n T.l 0 with
  | none => (130, T)
  | some (i, _) => (0, ⟨T.l.eraseIdx i, T.last⟩)
def tLeave (T : Tb) (owner : Int) : Int × Tb := ((T.l.length : Int) - (T.l.filter fun u => !(u.owner == owner)).length, ⟨T.l.filter fun u => !(u.owner == owner), T.last⟩)
def tBytes (l : List Up) : Nat := (l.map fun u => u.b.length).sum

/-- What a table holds by itself. -/
structure TbOk (T : Tb) : Prop where
  len : T.l.length ≤ 4
  bs : ∀ u ∈ T.l, Bs u.b ∧ u.b.length ≤ 4096
theorem TbOk.empty : TbOk ⟨[], 0⟩ := ⟨by simp, fun u hu => by simp at hu⟩
theorem TbOk.begin {T : Tb} (h : TbOk T) (owner : Int) (name : ByteArray) : TbOk (tBegin T owner name).2.2 := by
  unfold tBegin
  split
  · exact h
  · refine ⟨by simp; omega, fun u hu => ?_⟩
    rcases List.mem_append.1 hu with hu | hu
    · exact h.bs u hu
    · simp at hu
      subst hu
      exact ⟨fun x hx => by simp at hx, by simp⟩
theorem TbOk.chunk {T : Tb} (h : TbOk T) (owner n page : Int) {b : List Int} (hb : Bs b) : TbOk (tChunk T owner n page b).2 := by
  unfold tChunk
  split
  · exact h
  · rename_i i u hf
    split
    · exact h
    · split
      · exact h
      · rename_i hl
        obtain ⟨_, hu, _⟩ := fUp_some hf
        have hu := List.mem_of_getElem? hu
        refine ⟨by simpa using h.len, fun v hv => ?_⟩
        rcases List.mem_or_eq_of_mem_set hv with hv | rfl
        · exact h.bs v hv
        · exact ⟨(h.bs u hu).1.append hb, by simp; omega⟩
theorem TbOk.sub {T : Tb} (h : TbOk T) {l : List Up} (hl : l.Sublist T.l) (last : Int) : TbOk ⟨l, last⟩ := ⟨Nat.le_trans hl.length_le h.len, fun u hu => h.bs u (hl.subset hu)⟩
theorem TbOk.abort {T : Tb} (h : TbOk T) (owner n : Int) : TbOk (tAbort T owner n).2 := by
  unfold tAbort
  split
  · exact h
  · exact h.sub (List.eraseIdx_sublist ..) _
theorem TbOk.commit {T : Tb} (h : TbOk T) (owner n : Int) : TbOk (tCommit T owner n).2.2.2 := by
  unfold tCommit
  split
  · exact h
  · split <;> exact h.sub (List.eraseIdx_sublist ..) _
theorem TbOk.leave {T : Tb} (h : TbOk T) (owner : Int) : TbOk (tLeave T owner).2 := h.sub List.filter_sublist _
theorem bytes_le {l : List Up} {n : Nat} : (∀ u ∈ l, u.b.length ≤ n) → tBytes l ≤ l.length * n := by
  induction l with
  | nil => intro _; simp [tBytes]
  | cons u l ih =>
    intro h
    have h1 := ih (fun v hv => h v (by simp [hv]))
    have h2 := h u (by simp)
    simp only [tBytes, List.map_cons, List.sum_cons, List.length_cons] at h1 ⊢
    rw [Nat.add_mul]
    omega
theorem TbOk.bytes {T : Tb} (h : TbOk T) : tBytes T.l ≤ 16384 := by
  have := bytes_le (l := T.l) (n := 4096) (fun u hu => (h.bs u hu).2)
  have := h.len
  omega
end Go.Proofs.Ytdnlnaeonhbfiaa.V
