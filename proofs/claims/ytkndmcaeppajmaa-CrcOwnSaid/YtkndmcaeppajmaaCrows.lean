/- What a law's row hands to a walk: the numbers of a slice. Conditions: those of the row. -/
import Derived.Test.YtkndmcaeppajmaaMstr
import Derived.Test.YtkndmcaeppajmaaWSized
namespace Go.Proofs.Ytkndmcaeppajmaa.F
open Go.RowKit Go.Proofs.Ytkndmcaeppajmaa.M

theorem row_ints {kd : IntKind} {w : World} {a : Option Addr} {len cap : Nat} {zs : List Int}
    (h : (a = none ∧ len = 0 ∧ cap = 0 ∧ zs = []) ∨ ∃ x, a = some x ∧ len ≤ cap ∧ cap ≤ maxLen ∧ zs.length = cap ∧ (∀ i, i < zs.length → w.cell? (x.add i) = some (.int kd (zs.getD i 0))) ∧ ∀ n ∈ zs, (Lit.int kd n).wf = true) :
    ∃ b : List Int, b.length = len ∧ len ≤ cap ∧ RdI w kd a b ∧ ∀ n ∈ b, (Lit.int kd n).wf = true := by
  rcases h with ⟨rfl, rfl, rfl, rfl⟩ | ⟨x, rfl, h1, h2, h3, h4, h5⟩
  · exact ⟨[], rfl, Nat.le_refl _, fun j x hx => by simp at hx, fun n hn => by simp at hn⟩
  · refine ⟨zs.take len, by rw [List.length_take]; omega, h1, ?_, fun n hn => h5 n (List.mem_of_mem_take hn)⟩
    intro j y hy
    rw [List.getElem?_take] at hy
    split at hy
    · have hj := (List.getElem?_eq_some_iff.1 hy).1
      refine ⟨x, rfl, ?_⟩
      rw [h4 j hj]
      simp [List.getD, hy]
    · cases hy
theorem wf_bs {xs : List Int} (h : ∀ x ∈ xs, (Lit.int .u8 x).wf = true) : ∀ x ∈ xs, 0 ≤ x ∧ x ≤ 255 := fun x hx => by
  have := h x hx
  simp [Lit.wf, IntKind.min, IntKind.max, IntKind.signed, IntKind.bits] at this
  omega
theorem wf_u32 {n : Int} (h : (Lit.int .u32 n).wf = true) : ∃ m : BitVec 32, n = (m.toNat : Int) := by
  simp [Lit.wf, IntKind.min, IntKind.max, IntKind.signed, IntKind.bits] at h
  exact ⟨BitVec.ofNat 32 n.toNat, by rw [BitVec.toNat_ofNat]; omega⟩
theorem wf_i64 {n : Int} (h : (Lit.int .i64 n).wf = true) : -9223372036854775808 ≤ n ∧ n ≤ 9223372036854775807 := by
  simp [Lit.wf, IntKind.min, IntKind.max, IntKind.signed, IntKind.bits] at h
  omega
theorem wf_u8 {n : Int} (h : (Lit.int .u8 n).wf = true) : ∃ m : BitVec 8, n = (m.toNat : Int) := by
  simp [Lit.wf, IntKind.min, IntKind.max, IntKind.signed, IntKind.bits] at h
  exact ⟨BitVec.ofNat 8 n.toNat, by rw [BitVec.toNat_ofNat]; omega⟩
end Go.Proofs.Ytkndmcaeppajmaa.F
