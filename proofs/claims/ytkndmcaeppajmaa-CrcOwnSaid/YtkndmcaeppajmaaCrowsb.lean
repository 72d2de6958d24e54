/- What a law's row hands to a walk: a slice of slices of bytes. Conditions: those of the row. -/
import Derived.Test.YtkndmcaeppajmaaCown
import Derived.Deep.Matrix
namespace Go.Proofs.Ytkndmcaeppajmaa.F
open Go.RowKit Go.Proofs.Ytkndmcaeppajmaa.M Go.Proofs.Ytkndmcaeppajmaa.V Go.ChangeShapes Go.WideShapes

def unb (xs : List Int) : List (BitVec 8) := xs.map fun x => BitVec.ofNat 8 x.toNat
theorem unb_byts {xs : List Int} (h : ∀ x ∈ xs, 0 ≤ x ∧ x ≤ 255) : byts (unb xs) = xs := by
  obtain ⟨bs, rfl⟩ := byts_of h
  unfold unb byts
  rw [List.map_map, List.map_map]
  apply List.map_congr_left
  intro b _
  have := b.isLt
  simp [bi]
theorem unb_len (xs : List Int) : (unb xs).length = xs.length := List.length_map _

theorem row_rows {H : Type} {enc : TypeId × Value → H} {P : Program} {w : World} {base : Nat} {held : Bool} {t e q : TypeId} {s : Option Addr} {len cap : Nat} {d : DataW H} {p : List MemPlace}
    (ht : P.underlying t = some (.slice e)) (he : P.underlying e = some (.slice q)) (hq : P.underlying q = some (.int .u8)) (ce : P.cellsOf e = 1) (cq : P.cellsOf q = 1) (h : DataW.Trod enc P w base (fun _ => true) held t (.slice s len cap) d p) :
    ∃ rows : List (Option Addr × Nat × List (BitVec 8)), len = rows.length ∧ len ≤ maxLen ∧ RdB w s rows := by
  obtain ⟨fuel, hf⟩ := h
  rcases Go.Deep.open_int_rows ht he hq ce cq hf with ⟨hcs, _⟩ | ⟨a, l, c, A, L, C, Z, hcs, _, hl, hm, _, hall⟩
  · simp [Value.cells] at hcs
    obtain ⟨rfl, rfl, rfl⟩ := hcs
    exact ⟨[], rfl, Nat.zero_le _, fun j r hj => by simp at hj⟩
  · simp [Value.cells] at hcs
    obtain ⟨rfl, rfl, rfl⟩ := hcs
    refine ⟨(List.range len).map fun r => (A r, C r, unb ((Z r).take (L r))), by simp, Nat.le_trans hl hm, ?_⟩
    intro j r hj
    rw [List.getElem?_map] at hj
    cases hx : (List.range len)[j]? with
    | none => rw [hx] at hj; cases hj
    | some j' =>
      rw [hx] at hj
      obtain ⟨hjl, e⟩ := List.getElem?_eq_some_iff.1 hx
      rw [List.getElem_range] at e
      rw [List.length_range] at hjl
      subst e
      cases hj
      obtain ⟨h1, h2, h3, h4, h5, h6, h7⟩ := hall j (by omega)
      have hw : ∀ x ∈ (Z j).take (L j), 0 ≤ x ∧ x ≤ 255 := wf_bs fun x hx => h5 x (List.mem_of_mem_take hx)
      have hlen : (unb ((Z j).take (L j))).length = L j := by rw [unb_len, List.length_take]; omega
      refine ⟨?_, ⟨a, rfl, ?_⟩, ?_⟩
      · show (unb ((Z j).take (L j))).length ≤ C j; omega
      · show w.cell? (a.add j) = some (.slice (A j) (unb ((Z j).take (L j))).length (C j))
        rw [hlen]; exact h1
      · show RdI w .u8 (A j) (byts (unb ((Z j).take (L j))))
        rw [unb_byts hw]
        intro i x hx
        rw [List.getElem?_take] at hx
        split at hx
        · rename_i hil
          cases hA : A j with
          | none => have := h6 hA; omega
          | some a' =>
            refine ⟨a', rfl, ?_⟩
            rw [(h7 a' hA).2 i (by omega)]
            simp [List.getD, hx]
        · cases hx
end Go.Proofs.Ytkndmcaeppajmaa.F
