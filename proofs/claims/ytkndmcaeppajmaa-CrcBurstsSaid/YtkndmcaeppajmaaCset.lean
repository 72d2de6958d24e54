/- One place of an owned row is written. Conditions: the place is within the row's length. -/
import Derived.Test.YtkndmcaeppajmaaCmorelaw
import Derived.Test.YtkndmcaeppajmaaCburst
namespace Go.Proofs.Ytkndmcaeppajmaa.F
open Go.RowKit Go.Proofs.Ytkndmcaeppajmaa.M Go.Proofs.Ytkndmcaeppajmaa.V

theorem own_set {e : TypeId} {kd : IntKind} {b : Nat} {w : World} {A : Option Addr} {n c : Nat} {xs : List Int} (h : OwnI e kd b w (.slice A n c) xs) {i : Nat} (hi : i < xs.length) :
    ∃ g, A = some (At g 0) ∧ b ≤ g ∧ g < w.heap.size ∧ w.cell? (At g i) = some (.int kd xs[i]) ∧ w.frozen? (At g i) = false ∧
      ∀ x, OwnI e kd b (w.setCell (At g i) (.int kd x)) (.slice A n c) (xs.set i x) := by
  have hcell := fun g => World.ownsRow.cells h (g := g)
  rcases h.2 with ⟨hv, hn⟩ | ⟨g, cap, cur, hv, hb, hg, hc, hm, hs, ht⟩
  · omega
  · injection hv with h1 h2 h3
    have hB : Blk w g e cur := hg
    refine ⟨g, h1, hb, hB.lt, ?_, hB.frozen i, fun x => ?_⟩
    · have := hcell g (by rw [h1]; rfl) i (.int kd xs[i]) (by rw [List.getElem?_map, List.getElem?_eq_getElem hi]; rfl)
      rwa [add_off, Nat.zero_add] at this
    · refine ⟨by simp, .inr ⟨g, cap, cur.setIfInBounds i (.int kd x), ?_, hb, hB.set i _, by simpa using hc, hm, by simpa using hs, ?_⟩⟩
      · rw [h1, h2, h3, List.length_set]
      · rw [List.length_set]
        simp only [Array.toList_setIfInBounds, Nat.mul_one, List.map_set] at ht ⊢
        rw [← ht, List.take_set]
end Go.Proofs.Ytkndmcaeppajmaa.F
