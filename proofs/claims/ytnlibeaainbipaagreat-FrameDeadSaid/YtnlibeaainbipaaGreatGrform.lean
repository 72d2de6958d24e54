/- The names of a kind's fields, as the document tells them. Conditions: none. -/
import Derived.Test.YtnlibeaainbipaaGreatGmround
import Derived.Test.YtnlibeaainbipaaGreatMfnp
namespace Go.Proofs.YtnlibeaainbipaaGreat.V
/-- A field's name. -/
def nm (f : Int) : ByteArray := if f = 114 then ⟨#[114, 101, 113]⟩ else if f = 99 then ⟨#[99, 97, 112, 115]⟩ else if f = 116 then ⟨#[116, 111, 107, 101, 110]⟩ else if f = 101 then ⟨#[99, 111, 100, 101]⟩ else if f = 110 then ⟨#[110]⟩ else if f = 78 then ⟨#[110, 97, 109, 101]⟩ else if f = 67 then ⟨#[99, 111, 110, 102]⟩ else if f = 76 then ⟨#[99, 104, 97, 110, 103, 101, 115]⟩ else if f = 105 then ⟨#[105, 100]⟩ else if f = 118 then ⟨#[118, 101, 99]⟩ else if f = 107 then ⟨#[107]⟩ else if f = 119 then ⟨#[119, 105, 100, 116, 104]⟩ else if f = 102 then ⟨#[102, 105, 108, 116, 101, 114]⟩ else if f = 117 then ⟨#[110, 117, 109]⟩ else if f = 112 then ⟨#[112, 97, 103, 101]⟩ else if f = 98 then ⟨#[98, 121, 116, 101, 115]⟩ else if f = 86 then ⟨#[118, 101, 114, 115, 105, 111, 110]⟩ else if f = 83 then ⟨#[110, 97, 109, 101, 115]⟩ else if f = 73 then ⟨#[105, 116, 101, 109, 115]⟩ else if f = 72 then ⟨#[104, 105, 116, 115]⟩ else ⟨#[]⟩
end Go.Proofs.YtnlibeaainbipaaGreat.V
namespace Go.Proofs.YtnlibeaainbipaaGreat.M
open Go.RowKit Go.Proofs.YtnlibeaainbipaaGreat.V
variable {P : Program}
def SE (P : Program) (t e : TypeId) : Prop := P.underlying t = some (.slice e) ∧ (P.info? e).map (fun i => (i.zero, i.size)) = some (some (.string ⟨#[]⟩), 1)
theorem bsl_s1 {t e : TypeId} {w : World} {x0 : ByteArray} {k : Value → World → Prop} (hT : SE P t e) (hk : k (.slice (some (At w.heap.size 0)) 1 1) (w.alloc (.cells #[.string x0] e))) : bslK P t 1 #[(0, .string x0)] w k := by
  obtain ⟨ht, hi⟩ := hT
  cases hinfo : P.info? e with
  | none => rw [hinfo] at hi; cases hi
  | some i =>
    rw [hinfo] at hi
    simp only [Option.map_some, Option.some.injEq, Prod.mk.injEq] at hi
    obtain ⟨hz, hs⟩ := hi
    refine runK_of ?_ hk
    simp [Instr.buildSlice, run_underlying ht, sizeOf, typeInfo, hinfo, hs, zeroValue, hz, Instr.fill, Value.cells, newRow, newObj, go_sem]
    rfl
theorem bsl_s2 {t e : TypeId} {w : World} {x0 x1 : ByteArray} {k : Value → World → Prop} (hT : SE P t e) (hk : k (.slice (some (At w.heap.size 0)) 2 2) (w.alloc (.cells #[.string x0, .string x1] e))) : bslK P t 2 #[(0, .string x0), (1, .string x1)] w k := by
  obtain ⟨ht, hi⟩ := hT
  cases hinfo : P.info? e with
  | none => rw [hinfo] at hi; cases hi
  | some i =>
    rw [hinfo] at hi
    simp only [Option.map_some, Option.some.injEq, Prod.mk.injEq] at hi
    obtain ⟨hz, hs⟩ := hi
    refine runK_of ?_ hk
    simp [Instr.buildSlice, run_underlying ht, sizeOf, typeInfo, hinfo, hs, zeroValue, hz, Instr.fill, Value.cells, newRow, newObj, go_sem]
    rfl
theorem bsl_s3 {t e : TypeId} {w : World} {x0 x1 x2 : ByteArray} {k : Value → World → Prop} (hT : SE P t e) (hk : k (.slice (some (At w.heap.size 0)) 3 3) (w.alloc (.cells #[.string x0, .string x1, .string x2] e))) : bslK P t 3 #[(0, .string x0), (1, .string x1), (2, .string x2)] w k := by
  obtain ⟨ht, hi⟩ := hT
  cases hinfo : P.info? e with
  | none => rw [hinfo] at hi; cases hi
  | some i =>
    rw [hinfo] at hi
    simp only [Option.map_some, Option.some.injEq, Prod.mk.injEq] at hi
    obtain ⟨hz, hs⟩ := hi
    refine runK_of ?_ hk
    simp [Instr.buildSlice, run_underlying ht, sizeOf, typeInfo, hinfo, hs, zeroValue, hz, Instr.fill, Value.cells, newRow, newObj, go_sem]
    rfl
theorem bsl_s4 {t e : TypeId} {w : World} {x0 x1 x2 x3 : ByteArray} {k : Value → World → Prop} (hT : SE P t e) (hk : k (.slice (some (At w.heap.size 0)) 4 4) (w.alloc (.cells #[.string x0, .string x1, .string x2, .string x3] e))) : bslK P t 4 #[(0, .string x0), (1, .string x1), (2, .string x2), (3, .string x3)] w k := by
  obtain ⟨ht, hi⟩ := hT
  cases hinfo : P.info? e with
  | none => rw [hinfo] at hi; cases hi
  | some i =>
    rw [hinfo] at hi
    simp only [Option.map_some, Option.some.injEq, Prod.mk.injEq] at hi
    obtain ⟨hz, hs⟩ := hi
    refine runK_of ?_ hk
    simp [Instr.buildSlice, run_underlying ht, sizeOf, typeInfo, hinfo, hs, zeroValue, hz, Instr.fill, Value.cells, newRow, newObj, go_sem]
    rfl
theorem bsl_s6 {t e : TypeId} {w : World} {x0 x1 x2 x3 x4 x5 : ByteArray} {k : Value → World → Prop} (hT : SE P t e) (hk : k (.slice (some (At w.heap.size 0)) 6 6) (w.alloc (.cells #[.string x0, .string x1, .string x2, .string x3, .string x4, .string x5] e))) : bslK P t 6 #[(0, .string x0), (1, .string x1), (2, .string x2), (3, .string x3), (4, .string x4), (5, .string x5)] w k := by
  obtain ⟨ht, hi⟩ := hT
  cases hinfo : P.info? e with
  | none => rw [hinfo] at hi; cases hi
  | some i =>
    rw [hinfo] at hi
    simp only [Option.map_some, Option.some.injEq, Prod.mk.injEq] at hi
    obtain ⟨hz, hs⟩ := hi
    refine runK_of ?_ hk
    simp [Instr.buildSlice, run_underlying ht, sizeOf, typeInfo, hinfo, hs, zeroValue, hz, Instr.fill, Value.cells, newRow, newObj, go_sem]
    rfl
theorem bsl_s7 {t e : TypeId} {w : World} {x0 x1 x2 x3 x4 x5 x6 : ByteArray} {k : Value → World → Prop} (hT : SE P t e) (hk : k (.slice (some (At w.heap.size 0)) 7 7) (w.alloc (.cells #[.string x0, .string x1, .string x2, .string x3, .string x4, .string x5, .string x6] e))) : bslK P t 7 #[(0, .string x0), (1, .string x1), (2, .string x2), (3, .string x3), (4, .string x4), (5, .string x5), (6, .string x6)] w k := by
  obtain ⟨ht, hi⟩ := hT
  cases hinfo : P.info? e with
  | none => rw [hinfo] at hi; cases hi
  | some i =>
    rw [hinfo] at hi
    simp only [Option.map_some, Option.some.injEq, Prod.mk.injEq] at hi
    obtain ⟨hz, hs⟩ := hi
    refine runK_of ?_ hk
    simp [Instr.buildSlice, run_underlying ht, sizeOf, typeInfo, hinfo, hs, zeroValue, hz, Instr.fill, Value.cells, newRow, newObj, go_sem]
    rfl

theorem elems_strs (w : World) {e : TypeId} (xs : List ByteArray) (h : ∀ x ∈ xs, x.size ≤ 10) : Elems Kind.str (fun k => w.heap.size ≤ k) (w.alloc (.cells (xs.map Value.string).toArray e)) (some (At w.heap.size 0)) xs := by
  intro j x hx
  refine ⟨_, rfl, Nat.le_refl _, [.string x], ⟨rfl, ?_⟩, ?_⟩
  · exact Nat.le_trans (h x (List.mem_of_getElem? hx)) (by decide)
  · intro i v hv
    have : i = 0 := by have := (List.getElem?_eq_some_iff.1 hv).1; simp at this; omega
    subst this
    cases hv
    rw [at_add, at_add, (Blk.new w e _).cell]
    simp [hx, Kind.str]
end Go.Proofs.YtnlibeaainbipaaGreat.M
namespace Go.Proofs.YtnlibeaainbipaaGreat.F
open Go.RowKit Go.Proofs.YtnlibeaainbipaaGreat.M Go.Proofs.YtnlibeaainbipaaGreat.V
set_option linter.unusedSimpArgs false
set_option linter.unusedVariables false
set_option maxRecDepth 20000
theorem seStr : SE Tryz.prog 30 9 := ⟨Tryz.underlying30, by kernel_rfl⟩
theorem refForm_calls (k : Int) (w : World) : callK Tryz.prog 33 #[.int .u8 k] w fun v w' =>
    (form k = none ∧ v = .tuple #[.slice none 0 0, .bool false] ∧ w' = w) ∨ ∃ l, form k = some l ∧ ∃ A, v = .tuple #[.slice A l.size l.size, .bool true] ∧ Elems Kind.str (fun k => w.heap.size ≤ k) w' A ((nums l).map nm) ∧ Keep w w' := by
  refine callK_of Tryz.func33 c33 r33 (by exact Nat.le_of_ble_eq_true rfl) ?_
  rw [m33]
  rcases kinds_cases k with h | h
  · rcases h with rfl|rfl|rfl|rfl|rfl|rfl|rfl|rfl|rfl|rfl|rfl|rfl|rfl|rfl|rfl|rfl|rfl|rfl|rfl|rfl|rfl|rfl|rfl|rfl
    · simp -implicitDefEqProofs only [go_sem, seval, Int.reduceBEq]
      refine bsl_s1 seStr ?_
      simp -implicitDefEqProofs only [go_sem, seval]
      refine .inr ⟨⟨#[99]⟩, rfl, some (At w.heap.size 0), rfl, ?_, Fx.alloc _ _ _⟩
      have e : (nums ⟨#[99]⟩).map nm = [⟨#[99, 97, 112, 115]⟩] := by kernel_rfl
      rw [e]
      exact elems_strs w [⟨#[99, 97, 112, 115]⟩] (by decide)
    · simp -implicitDefEqProofs only [go_sem, seval, Int.reduceBEq]
      refine bsl_s3 seStr ?_
      simp -implicitDefEqProofs only [go_sem, seval]
      refine .inr ⟨⟨#[99, 116, 110]⟩, rfl, some (At w.heap.size 0), rfl, ?_, Fx.alloc _ _ _⟩
      have e : (nums ⟨#[99, 116, 110]⟩).map nm = [⟨#[99, 97, 112, 115]⟩, ⟨#[116, 111, 107, 101, 110]⟩, ⟨#[110]⟩] := by kernel_rfl
      rw [e]
      exact elems_strs w [⟨#[99, 97, 112, 115]⟩, ⟨#[116, 111, 107, 101, 110]⟩, ⟨#[110]⟩] (by decide)
    · simp -implicitDefEqProofs only [go_sem, seval, Int.reduceBEq]
      refine bsl_s2 seStr ?_
      simp -implicitDefEqProofs only [go_sem, seval]
      refine .inr ⟨⟨#[116, 110]⟩, rfl, some (At w.heap.size 0), rfl, ?_, Fx.alloc _ _ _⟩
      have e : (nums ⟨#[116, 110]⟩).map nm = [⟨#[116, 111, 107, 101, 110]⟩, ⟨#[110]⟩] := by kernel_rfl
      rw [e]
      exact elems_strs w [⟨#[116, 111, 107, 101, 110]⟩, ⟨#[110]⟩] (by decide)
    · simp -implicitDefEqProofs only [go_sem, seval, Int.reduceBEq]
      refine bsl_s1 seStr ?_
      simp -implicitDefEqProofs only [go_sem, seval]
      refine .inr ⟨⟨#[110]⟩, rfl, some (At w.heap.size 0), rfl, ?_, Fx.alloc _ _ _⟩
      have e : (nums ⟨#[110]⟩).map nm = [⟨#[110]⟩] := by kernel_rfl
      rw [e]
      exact elems_strs w [⟨#[110]⟩] (by decide)
    · simp -implicitDefEqProofs only [go_sem, seval, Int.reduceBEq]
      refine bsl_s1 seStr ?_
      simp -implicitDefEqProofs only [go_sem, seval]
      refine .inr ⟨⟨#[101]⟩, rfl, some (At w.heap.size 0), rfl, ?_, Fx.alloc _ _ _⟩
      have e : (nums ⟨#[101]⟩).map nm = [⟨#[99, 111, 100, 101]⟩] := by kernel_rfl
      rw [e]
      exact elems_strs w [⟨#[99, 111, 100, 101]⟩] (by decide)
    · simp -implicitDefEqProofs only [go_sem, seval, Int.reduceBEq]
      refine bsl_s1 seStr ?_
      simp -implicitDefEqProofs only [go_sem, seval]
      refine .inr ⟨⟨#[101]⟩, rfl, some (At w.heap.size 0), rfl, ?_, Fx.alloc _ _ _⟩
      have e : (nums ⟨#[101]⟩).map nm = [⟨#[99, 111, 100, 101]⟩] := by kernel_rfl
      rw [e]
      exact elems_strs w [⟨#[99, 111, 100, 101]⟩] (by decide)
    · simp -implicitDefEqProofs only [go_sem, seval, Int.reduceBEq]
      refine bsl_s1 seStr ?_
      simp -implicitDefEqProofs only [go_sem, seval]
      refine .inr ⟨⟨#[110]⟩, rfl, some (At w.heap.size 0), rfl, ?_, Fx.alloc _ _ _⟩
      have e : (nums ⟨#[110]⟩).map nm = [⟨#[110]⟩] := by kernel_rfl
      rw [e]
      exact elems_strs w [⟨#[110]⟩] (by decide)
    · simp -implicitDefEqProofs only [go_sem, seval, Int.reduceBEq]
      refine bsl_s1 seStr ?_
      simp -implicitDefEqProofs only [go_sem, seval]
      refine .inr ⟨⟨#[110]⟩, rfl, some (At w.heap.size 0), rfl, ?_, Fx.alloc _ _ _⟩
      have e : (nums ⟨#[110]⟩).map nm = [⟨#[110]⟩] := by kernel_rfl
      rw [e]
      exact elems_strs w [⟨#[110]⟩] (by decide)
    · simp -implicitDefEqProofs only [go_sem, seval, Int.reduceBEq]
      refine bsl_s1 seStr ?_
      simp -implicitDefEqProofs only [go_sem, seval]
      refine .inr ⟨⟨#[110]⟩, rfl, some (At w.heap.size 0), rfl, ?_, Fx.alloc _ _ _⟩
      have e : (nums ⟨#[110]⟩).map nm = [⟨#[110]⟩] := by kernel_rfl
      rw [e]
      exact elems_strs w [⟨#[110]⟩] (by decide)
    · simp -implicitDefEqProofs only [go_sem, seval, Int.reduceBEq]
      refine bsl_s1 seStr ?_
      simp -implicitDefEqProofs only [go_sem, seval]
      refine .inr ⟨⟨#[110]⟩, rfl, some (At w.heap.size 0), rfl, ?_, Fx.alloc _ _ _⟩
      have e : (nums ⟨#[110]⟩).map nm = [⟨#[110]⟩] := by kernel_rfl
      rw [e]
      exact elems_strs w [⟨#[110]⟩] (by decide)
    · simp -implicitDefEqProofs only [go_sem, seval, Int.reduceBEq]
      refine bsl_s2 seStr ?_
      simp -implicitDefEqProofs only [go_sem, seval]
      refine .inr ⟨⟨#[114, 67]⟩, rfl, some (At w.heap.size 0), rfl, ?_, Fx.alloc _ _ _⟩
      have e : (nums ⟨#[114, 67]⟩).map nm = [⟨#[114, 101, 113]⟩, ⟨#[99, 111, 110, 102]⟩] := by kernel_rfl
      rw [e]
      exact elems_strs w [⟨#[114, 101, 113]⟩, ⟨#[99, 111, 110, 102]⟩] (by decide)
    · simp -implicitDefEqProofs only [go_sem, seval, Int.reduceBEq]
      refine bsl_s2 seStr ?_
      simp -implicitDefEqProofs only [go_sem, seval]
      refine .inr ⟨⟨#[114, 78]⟩, rfl, some (At w.heap.size 0), rfl, ?_, Fx.alloc _ _ _⟩
      have e : (nums ⟨#[114, 78]⟩).map nm = [⟨#[114, 101, 113]⟩, ⟨#[110, 97, 109, 101]⟩] := by kernel_rfl
      rw [e]
      exact elems_strs w [⟨#[114, 101, 113]⟩, ⟨#[110, 97, 109, 101]⟩] (by decide)
    · simp -implicitDefEqProofs only [go_sem, seval, Int.reduceBEq]
      refine bsl_s1 seStr ?_
      simp -implicitDefEqProofs only [go_sem, seval]
      refine .inr ⟨⟨#[114]⟩, rfl, some (At w.heap.size 0), rfl, ?_, Fx.alloc _ _ _⟩
      have e : (nums ⟨#[114]⟩).map nm = [⟨#[114, 101, 113]⟩] := by kernel_rfl
      rw [e]
      exact elems_strs w [⟨#[114, 101, 113]⟩] (by decide)
    · simp -implicitDefEqProofs only [go_sem, seval, Int.reduceBEq]
      refine bsl_s3 seStr ?_
      simp -implicitDefEqProofs only [go_sem, seval]
      refine .inr ⟨⟨#[114, 78, 76]⟩, rfl, some (At w.heap.size 0), rfl, ?_, Fx.alloc _ _ _⟩
      have e : (nums ⟨#[114, 78, 76]⟩).map nm = [⟨#[114, 101, 113]⟩, ⟨#[110, 97, 109, 101]⟩, ⟨#[99, 104, 97, 110, 103, 101, 115]⟩] := by kernel_rfl
      rw [e]
      exact elems_strs w [⟨#[114, 101, 113]⟩, ⟨#[110, 97, 109, 101]⟩, ⟨#[99, 104, 97, 110, 103, 101, 115]⟩] (by decide)
    · simp -implicitDefEqProofs only [go_sem, seval, Int.reduceBEq]
      refine bsl_s3 seStr ?_
      simp -implicitDefEqProofs only [go_sem, seval]
      refine .inr ⟨⟨#[114, 78, 105]⟩, rfl, some (At w.heap.size 0), rfl, ?_, Fx.alloc _ _ _⟩
      have e : (nums ⟨#[114, 78, 105]⟩).map nm = [⟨#[114, 101, 113]⟩, ⟨#[110, 97, 109, 101]⟩, ⟨#[105, 100]⟩] := by kernel_rfl
      rw [e]
      exact elems_strs w [⟨#[114, 101, 113]⟩, ⟨#[110, 97, 109, 101]⟩, ⟨#[105, 100]⟩] (by decide)
    · simp -implicitDefEqProofs only [go_sem, seval, Int.reduceBEq]
      refine bsl_s6 seStr ?_
      simp -implicitDefEqProofs only [go_sem, seval]
      refine .inr ⟨⟨#[114, 78, 118, 107, 119, 102]⟩, rfl, some (At w.heap.size 0), rfl, ?_, Fx.alloc _ _ _⟩
      have e : (nums ⟨#[114, 78, 118, 107, 119, 102]⟩).map nm = [⟨#[114, 101, 113]⟩, ⟨#[110, 97, 109, 101]⟩, ⟨#[118, 101, 99]⟩, ⟨#[107]⟩, ⟨#[119, 105, 100, 116, 104]⟩, ⟨#[102, 105, 108, 116, 101, 114]⟩] := by kernel_rfl
      rw [e]
      exact elems_strs w [⟨#[114, 101, 113]⟩, ⟨#[110, 97, 109, 101]⟩, ⟨#[118, 101, 99]⟩, ⟨#[107]⟩, ⟨#[119, 105, 100, 116, 104]⟩, ⟨#[102, 105, 108, 116, 101, 114]⟩] (by decide)
    · simp -implicitDefEqProofs only [go_sem, seval, Int.reduceBEq]
      refine bsl_s4 seStr ?_
      simp -implicitDefEqProofs only [go_sem, seval]
      refine .inr ⟨⟨#[114, 78, 118, 102]⟩, rfl, some (At w.heap.size 0), rfl, ?_, Fx.alloc _ _ _⟩
      have e : (nums ⟨#[114, 78, 118, 102]⟩).map nm = [⟨#[114, 101, 113]⟩, ⟨#[110, 97, 109, 101]⟩, ⟨#[118, 101, 99]⟩, ⟨#[102, 105, 108, 116, 101, 114]⟩] := by kernel_rfl
      rw [e]
      exact elems_strs w [⟨#[114, 101, 113]⟩, ⟨#[110, 97, 109, 101]⟩, ⟨#[118, 101, 99]⟩, ⟨#[102, 105, 108, 116, 101, 114]⟩] (by decide)
    · simp -implicitDefEqProofs only [go_sem, seval, Int.reduceBEq]
      refine bsl_s4 seStr ?_
      simp -implicitDefEqProofs only [go_sem, seval]
      refine .inr ⟨⟨#[114, 117, 112, 107]⟩, rfl, some (At w.heap.size 0), rfl, ?_, Fx.alloc _ _ _⟩
      have e : (nums ⟨#[114, 117, 112, 107]⟩).map nm = [⟨#[114, 101, 113]⟩, ⟨#[110, 117, 109]⟩, ⟨#[112, 97, 103, 101]⟩, ⟨#[107]⟩] := by kernel_rfl
      rw [e]
      exact elems_strs w [⟨#[114, 101, 113]⟩, ⟨#[110, 117, 109]⟩, ⟨#[112, 97, 103, 101]⟩, ⟨#[107]⟩] (by decide)
    · simp -implicitDefEqProofs only [go_sem, seval, Int.reduceBEq]
      refine bsl_s2 seStr ?_
      simp -implicitDefEqProofs only [go_sem, seval]
      refine .inr ⟨⟨#[114, 117]⟩, rfl, some (At w.heap.size 0), rfl, ?_, Fx.alloc _ _ _⟩
      have e : (nums ⟨#[114, 117]⟩).map nm = [⟨#[114, 101, 113]⟩, ⟨#[110, 117, 109]⟩] := by kernel_rfl
      rw [e]
      exact elems_strs w [⟨#[114, 101, 113]⟩, ⟨#[110, 117, 109]⟩] (by decide)
    · simp -implicitDefEqProofs only [go_sem, seval, Int.reduceBEq]
      refine bsl_s2 seStr ?_
      simp -implicitDefEqProofs only [go_sem, seval]
      refine .inr ⟨⟨#[114, 78]⟩, rfl, some (At w.heap.size 0), rfl, ?_, Fx.alloc _ _ _⟩
      have e : (nums ⟨#[114, 78]⟩).map nm = [⟨#[114, 101, 113]⟩, ⟨#[110, 97, 109, 101]⟩] := by kernel_rfl
      rw [e]
      exact elems_strs w [⟨#[114, 101, 113]⟩, ⟨#[110, 97, 109, 101]⟩] (by decide)
    · simp -implicitDefEqProofs only [go_sem, seval, Int.reduceBEq]
      refine bsl_s4 seStr ?_
      simp -implicitDefEqProofs only [go_sem, seval]
      refine .inr ⟨⟨#[114, 117, 112, 98]⟩, rfl, some (At w.heap.size 0), rfl, ?_, Fx.alloc _ _ _⟩
      have e : (nums ⟨#[114, 117, 112, 98]⟩).map nm = [⟨#[114, 101, 113]⟩, ⟨#[110, 117, 109]⟩, ⟨#[112, 97, 103, 101]⟩, ⟨#[98, 121, 116, 101, 115]⟩] := by kernel_rfl
      rw [e]
      exact elems_strs w [⟨#[114, 101, 113]⟩, ⟨#[110, 117, 109]⟩, ⟨#[112, 97, 103, 101]⟩, ⟨#[98, 121, 116, 101, 115]⟩] (by decide)
    · simp -implicitDefEqProofs only [go_sem, seval, Int.reduceBEq]
      refine bsl_s2 seStr ?_
      simp -implicitDefEqProofs only [go_sem, seval]
      refine .inr ⟨⟨#[114, 117]⟩, rfl, some (At w.heap.size 0), rfl, ?_, Fx.alloc _ _ _⟩
      have e : (nums ⟨#[114, 117]⟩).map nm = [⟨#[114, 101, 113]⟩, ⟨#[110, 117, 109]⟩] := by kernel_rfl
      rw [e]
      exact elems_strs w [⟨#[114, 101, 113]⟩, ⟨#[110, 117, 109]⟩] (by decide)
    · simp -implicitDefEqProofs only [go_sem, seval, Int.reduceBEq]
      refine bsl_s2 seStr ?_
      simp -implicitDefEqProofs only [go_sem, seval]
      refine .inr ⟨⟨#[114, 117]⟩, rfl, some (At w.heap.size 0), rfl, ?_, Fx.alloc _ _ _⟩
      have e : (nums ⟨#[114, 117]⟩).map nm = [⟨#[114, 101, 113]⟩, ⟨#[110, 117, 109]⟩] := by kernel_rfl
      rw [e]
      exact elems_strs w [⟨#[114, 101, 113]⟩, ⟨#[110, 117, 109]⟩] (by decide)
    · simp -implicitDefEqProofs only [go_sem, seval, Int.reduceBEq]
      refine bsl_s7 seStr ?_
      simp -implicitDefEqProofs only [go_sem, seval]
      refine .inr ⟨⟨#[114, 101, 86, 117, 83, 73, 72]⟩, rfl, some (At w.heap.size 0), rfl, ?_, Fx.alloc _ _ _⟩
      have e : (nums ⟨#[114, 101, 86, 117, 83, 73, 72]⟩).map nm = [⟨#[114, 101, 113]⟩, ⟨#[99, 111, 100, 101]⟩, ⟨#[118, 101, 114, 115, 105, 111, 110]⟩, ⟨#[110, 117, 109]⟩, ⟨#[110, 97, 109, 101, 115]⟩, ⟨#[105, 116, 101, 109, 115]⟩, ⟨#[104, 105, 116, 115]⟩] := by kernel_rfl
      rw [e]
      exact elems_strs w [⟨#[114, 101, 113]⟩, ⟨#[99, 111, 100, 101]⟩, ⟨#[118, 101, 114, 115, 105, 111, 110]⟩, ⟨#[110, 117, 109]⟩, ⟨#[110, 97, 109, 101, 115]⟩, ⟨#[105, 116, 101, 109, 115]⟩, ⟨#[104, 105, 116, 115]⟩] (by decide)

  · have hf : form k = none := by simp only [form, h, if_false]
    have z1 : (k == 1) = false := by rw [beq_eq_false_iff_ne]; omega
    have z2 : (k == 2) = false := by rw [beq_eq_false_iff_ne]; omega
    have z3 : (k == 3) = false := by rw [beq_eq_false_iff_ne]; omega
    have z4 : (k == 4) = false := by rw [beq_eq_false_iff_ne]; omega
    have z5 : (k == 5) = false := by rw [beq_eq_false_iff_ne]; omega
    have z6 : (k == 6) = false := by rw [beq_eq_false_iff_ne]; omega
    have z7 : (k == 7) = false := by rw [beq_eq_false_iff_ne]; omega
    have z8 : (k == 8) = false := by rw [beq_eq_false_iff_ne]; omega
    have z9 : (k == 9) = false := by rw [beq_eq_false_iff_ne]; omega
    have z10 : (k == 10) = false := by rw [beq_eq_false_iff_ne]; omega
    have z11 : (k == 11) = false := by rw [beq_eq_false_iff_ne]; omega
    have z12 : (k == 12) = false := by rw [beq_eq_false_iff_ne]; omega
    have z13 : (k == 13) = false := by rw [beq_eq_false_iff_ne]; omega
    have z14 : (k == 14) = false := by rw [beq_eq_false_iff_ne]; omega
    have z15 : (k == 15) = false := by rw [beq_eq_false_iff_ne]; omega
    have z16 : (k == 16) = false := by rw [beq_eq_false_iff_ne]; omega
    have z17 : (k == 17) = false := by rw [beq_eq_false_iff_ne]; omega
    have z18 : (k == 18) = false := by rw [beq_eq_false_iff_ne]; omega
    have z19 : (k == 19) = false := by rw [beq_eq_false_iff_ne]; omega
    have z20 : (k == 20) = false := by rw [beq_eq_false_iff_ne]; omega
    have z21 : (k == 21) = false := by rw [beq_eq_false_iff_ne]; omega
    have z22 : (k == 22) = false := by rw [beq_eq_false_iff_ne]; omega
    have z23 : (k == 23) = false := by rw [beq_eq_false_iff_ne]; omega
    have z24 : (k == 24) = false := by rw [beq_eq_false_iff_ne]; omega
    simp -implicitDefEqProofs only [go_sem, seval, z1, z2, z3, z4, z5, z6, z7, z8, z9, z10, z11, z12, z13, z14, z15, z16, z17, z18, z19, z20, z21, z22, z23, z24]
    exact .inl ⟨hf, (by first | rfl | trivial), trivial⟩
end Go.Proofs.YtnlibeaainbipaaGreat.F
