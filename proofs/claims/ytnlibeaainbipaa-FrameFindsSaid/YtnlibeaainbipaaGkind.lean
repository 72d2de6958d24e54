/- Items, changes and hits as cells. Conditions: none beyond those that each theorem names. -/
import Derived.Test.YtnlibeaainbipaaZ2
import Derived.Test.YtnlibeaainbipaaZ3
namespace Go.Proofs.Ytnlibeaainbipaa.M
open Go.RowKit Go.Proofs.Ytnlibeaainbipaa.V

def kVec : Kind (List Int) := Kind.list (Kind.int .i32) Nat.zero_lt_one
def kTexts : Kind (List ByteArray) := Kind.list Kind.str Nat.zero_lt_one
def kItem : Kind MItem := ((Kind.int .u32).pair (kVec.pair kTexts)).of fun x => (x.id, x.vec, x.tags)
def kChange : Kind MChange := (Kind.bool.pair kItem).of fun x => (x.gone, x.item)
def kHit : Kind MHit := ((Kind.int .i64).pair (Kind.int .u32)).of fun x => (x.dist, x.id)
def kChanges : Kind (List MChange) := Kind.list kChange (Nat.succ_pos 3)
def kItems : Kind (List MItem) := Kind.list kItem (Nat.succ_pos 2)
def kHits : Kind (List MHit) := Kind.list kHit (Nat.succ_pos 1)
section
variable {U : Nat → Prop} {w : World}
theorem list_one {α : Type} {K : Kind α} {hz : 0 < K.sz} {xs : List α} {cs : List Value} (h : (Kind.list K hz).rep U w xs cs) : ∃ A c, cs = [.slice A xs.length c] ∧ xs.length ≤ c ∧ c ≤ maxLen ∧ Elems K U w A xs := h
theorem kItem_mk {x : MItem} {v u : Value} (h1 : (Lit.int .u32 x.id).wf = true) (h2 : kVec.rep U w x.vec [v]) (h3 : kTexts.rep U w x.tags [u]) : kItem.rep U w x [.int .u32 x.id, v, u] :=
  ⟨[.int .u32 x.id], [v, u], rfl, ⟨rfl, h1⟩, [v], [u], rfl, h2, h3⟩
theorem kItem_cases {x : MItem} {cs : List Value} (h : kItem.rep U w x cs) : ∃ A c B d, cs = [.int .u32 x.id, .slice A x.vec.length c, .slice B x.tags.length d] ∧ (Lit.int .u32 x.id).wf = true ∧
    x.vec.length ≤ c ∧ c ≤ maxLen ∧ Elems (Kind.int .i32) U w A x.vec ∧ x.tags.length ≤ d ∧ d ≤ maxLen ∧ Elems Kind.str U w B x.tags := by
  obtain ⟨c1, c2, rfl, ⟨rfl, h1⟩, c3, c4, rfl, h2, h3⟩ := h
  obtain ⟨A, c, rfl, a1, a2, a3⟩ := list_one h2
  obtain ⟨B, d, rfl, b1, b2, b3⟩ := list_one h3
  exact ⟨A, c, B, d, rfl, h1, a1, a2, a3, b1, b2, b3⟩
theorem kItem_vec {x : MItem} {A B : Option Addr} {c d : Nat} {i : Value} (h : kItem.rep U w x [i, .slice A x.vec.length c, .slice B x.tags.length d]) : kVec.rep U w x.vec [.slice A x.vec.length c] ∧ kTexts.rep U w x.tags [.slice B x.tags.length d] := by
  obtain ⟨A', c', B', d', e, _, h1, h2, h3, h4, h5, h6⟩ := kItem_cases h
  simp only [List.cons.injEq, Value.slice.injEq, and_true] at e
  obtain ⟨_, ⟨rfl, _, rfl⟩, rfl, _, rfl⟩ := e
  exact ⟨⟨A, c, rfl, h1, h2, h3⟩, ⟨B, d, rfl, h4, h5, h6⟩⟩
theorem kChange_mk {x : MChange} {cs : List Value} (h : kItem.rep U w x.item cs) : kChange.rep U w x (.bool x.gone :: cs) := ⟨[.bool x.gone], cs, rfl, rfl, h⟩
theorem kChange_cases {x : MChange} {cs : List Value} (h : kChange.rep U w x cs) : ∃ cs', cs = .bool x.gone :: cs' ∧ kItem.rep U w x.item cs' := by
  obtain ⟨c1, c2, rfl, rfl, h1⟩ := h
  exact ⟨c2, rfl, h1⟩
theorem kHit_mk {x : MHit} (h1 : (Lit.int .i64 x.dist).wf = true) (h2 : (Lit.int .u32 x.id).wf = true) : kHit.rep U w x [.int .i64 x.dist, .int .u32 x.id] := ⟨[.int .i64 x.dist], [.int .u32 x.id], rfl, ⟨rfl, h1⟩, ⟨rfl, h2⟩⟩
theorem kHit_cases {x : MHit} {cs : List Value} (h : kHit.rep U w x cs) : cs = [.int .i64 x.dist, .int .u32 x.id] ∧ (Lit.int .i64 x.dist).wf = true ∧ (Lit.int .u32 x.id).wf = true := by
  obtain ⟨c1, c2, rfl, ⟨rfl, h1⟩, ⟨rfl, h2⟩⟩ := h
  exact ⟨rfl, h1, h2⟩
theorem nil_rep {α : Type} (K : Kind α) (hz : 0 < K.sz) : (Kind.list K hz).rep U w [] [.slice none 0 0] := ⟨none, 0, rfl, Nat.le_refl _, Nat.zero_le _, Elems.nil _ _ _ _⟩
end
theorem wfU32 {n : Int} (h0 : 0 ≤ n) (h1 : n ≤ 4294967295) : (Lit.int .u32 n).wf = true := by
  simp [Lit.wf, IntKind.min, IntKind.max, IntKind.signed, IntKind.bits]; omega
theorem wfI32 {n : Int} (h0 : -2147483648 ≤ n) (h1 : n ≤ 2147483647) : (Lit.int .i32 n).wf = true := by
  simp [Lit.wf, IntKind.min, IntKind.max, IntKind.signed, IntKind.bits]; omega
theorem wfI64 {n : Int} (h0 : -9223372036854775808 ≤ n) (h1 : n ≤ 9223372036854775807) : (Lit.int .i64 n).wf = true := by
  simp [Lit.wf, IntKind.min, IntKind.max, IntKind.signed, IntKind.bits]; omega
theorem unU32 {n : Int} (h : (Lit.int .u32 n).wf = true) : 0 ≤ n ∧ n ≤ 4294967295 := by
  simp [Lit.wf, IntKind.min, IntKind.max, IntKind.signed, IntKind.bits] at h; omega
theorem unI32 {n : Int} (h : (Lit.int .i32 n).wf = true) : -2147483648 ≤ n ∧ n ≤ 2147483647 := by
  simp [Lit.wf, IntKind.min, IntKind.max, IntKind.signed, IntKind.bits] at h; omega
theorem unI64 {n : Int} (h : (Lit.int .i64 n).wf = true) : -9223372036854775808 ≤ n ∧ n ≤ 9223372036854775807 := by
  simp [Lit.wf, IntKind.min, IntKind.max, IntKind.signed, IntKind.bits] at h; omega
end Go.Proofs.Ytnlibeaainbipaa.M
