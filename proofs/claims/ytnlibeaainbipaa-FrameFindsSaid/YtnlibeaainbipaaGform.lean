/- The letters of a message's kind; a loop over a text's letters. Conditions: the text's bytes are small. -/
import Derived.Test.YtnlibeaainbipaaGmsg
import Derived.Laws.RangeString
namespace Go.Proofs.Ytnlibeaainbipaa.M
open Go.RowKit Go.Proofs.Ytnlibeaainbipaa.V
variable {P : Program}
def setIt (w : World) (it : Nat) (s : ByteArray) (pos : Nat) : World := { w with heap := w.heap.setIfInBounds it (.stringIter s pos) }
theorem StrIter.lt {w : World} {it : Nat} {s : ByteArray} {pos : Nat} (h : StrIter w it s pos) : it < w.heap.size := (Array.getElem?_eq_some_iff.1 h).1
theorem StrIter.set {w : World} {it : Nat} {s : ByteArray} {pos : Nat} (h : StrIter w it s pos) (p : Nat) : StrIter (setIt w it s p) it s p := by
  have := h.lt
  show (w.heap.setIfInBounds it _)[it]? = _
  simp [this]
theorem Fx.setIt {m : Nat → Prop} (w : World) (it : Nat) (s : ByteArray) (p : Nat) (hm : m it) : Fx m w (setIt w it s p) :=
  ⟨rfl, rfl, rfl, by show w.heap.size ≤ (w.heap.setIfInBounds it _).size; simp, fun k hk hn => by
    show (w.heap.setIfInBounds it _)[k]? = _
    rw [Array.getElem?_setIfInBounds_ne (fun e => by subst e; exact hn hm)]⟩
theorem StrIter.fx {m : Nat → Prop} {w w' : World} {it : Nat} {s : ByteArray} {pos : Nat} (h : StrIter w it s pos) (f : Fx m w w') (hn : ¬ m it) : StrIter w' it s pos := (f.block it h.lt hn).trans h
theorem next_str {w : World} {it : Nat} {s : ByteArray} {pos : Nat} {ty : TypeId} {x : Int} {k : Value → World → Prop} (h : StrIter w it s pos) (hx : (nums s)[pos]? = some x) (h128 : x < 128)
    (hk : k (.tuple #[.bool true, .int .i64 pos, .int .i32 x]) (setIt w it s (pos + 1))) : runK P (Instr.next (.pointer (some (At it 0))) true ty) w k := by
  have hlt : pos < s.size := by
    have := (List.getElem?_eq_some_iff.1 hx).1
    rw [nums_len] at this; exact this
  have hb : ((s[pos]'hlt).toNat : Int) = x := by
    unfold nums at hx
    rw [List.getElem?_map] at hx
    have e : s.data.toList[pos]? = some (s[pos]'hlt) := by
      rw [Array.getElem?_toList]
      exact Array.getElem?_eq_getElem hlt
    rw [e] at hx
    exact Option.some.inj hx
  refine runK_of ?_ hk
  have h' : w.heap[it]? = _ := h
  have hd := decode_ascii s pos hlt (by omega)
  simp only [Instr.next, getObj, setObj, Sem.run_bind, Sem.run, h', Result.andThen, hlt, if_true, hd, ← hb]
  rfl
theorem next_end {w : World} {it : Nat} {s : ByteArray} {pos : Nat} {ty : TypeId} {k : Value → World → Prop} (h : StrIter w it s pos) (hx : ¬ pos < s.size)
    (hk : k (.tuple #[.bool false]) w) : runK P (Instr.next (.pointer (some (At it 0))) true ty) w k := by
  refine runK_of ?_ hk
  have h' : w.heap[it]? = _ := h
  simp only [Instr.next, getObj, setObj, Sem.run_bind, Sem.run, h', Result.andThen, hx, if_false]
  rfl
end Go.Proofs.Ytnlibeaainbipaa.M
namespace Go.Proofs.Ytnlibeaainbipaa.V
/-- The letters of a kind's fields. -/
def form (k : Int) : Option ByteArray := if k = 1 then some ⟨#[99]⟩ else if k = 2 then some ⟨#[99, 116, 110]⟩ else if k = 3 then some ⟨#[116, 110]⟩ else if k = 4 then some ⟨#[110]⟩ else if k = 5 then some ⟨#[101]⟩ else if k = 6 then some ⟨#[101]⟩ else if k = 7 then some ⟨#[110]⟩ else if k = 8 then some ⟨#[110]⟩ else if k = 9 then some ⟨#[110]⟩ else if k = 10 then some ⟨#[110]⟩ else if k = 11 then some ⟨#[114, 67]⟩ else if k = 12 then some ⟨#[114, 78]⟩ else if k = 13 then some ⟨#[114]⟩ else if k = 14 then some ⟨#[114, 78, 76]⟩ else if k = 15 then some ⟨#[114, 78, 105]⟩ else if k = 16 then some ⟨#[114, 78, 118, 107, 119, 102]⟩ else if k = 17 then some ⟨#[114, 78, 118, 102]⟩ else if k = 18 then some ⟨#[114, 117, 112, 107]⟩ else if k = 19 then some ⟨#[114, 117]⟩ else if k = 20 then some ⟨#[114, 78]⟩ else if k = 21 then some ⟨#[114, 117, 112, 98]⟩ else if k = 22 then some ⟨#[114, 117]⟩ else if k = 23 then some ⟨#[114, 117]⟩ else if k = 24 then some ⟨#[114, 101, 86, 117, 83, 73, 72]⟩ else none
theorem kinds_cases (k : Int) : (k = 1 ∨ k = 2 ∨ k = 3 ∨ k = 4 ∨ k = 5 ∨ k = 6 ∨ k = 7 ∨ k = 8 ∨ k = 9 ∨ k = 10 ∨ k = 11 ∨ k = 12 ∨ k = 13 ∨ k = 14 ∨ k = 15 ∨ k = 16 ∨ k = 17 ∨ k = 18 ∨ k = 19 ∨ k = 20 ∨ k = 21 ∨ k = 22 ∨ k = 23 ∨ k = 24) ∨ (¬ k = 1 ∧ ¬ k = 2 ∧ ¬ k = 3 ∧ ¬ k = 4 ∧ ¬ k = 5 ∧ ¬ k = 6 ∧ ¬ k = 7 ∧ ¬ k = 8 ∧ ¬ k = 9 ∧ ¬ k = 10 ∧ ¬ k = 11 ∧ ¬ k = 12 ∧ ¬ k = 13 ∧ ¬ k = 14 ∧ ¬ k = 15 ∧ ¬ k = 16 ∧ ¬ k = 17 ∧ ¬ k = 18 ∧ ¬ k = 19 ∧ ¬ k = 20 ∧ ¬ k = 21 ∧ ¬ k = 22 ∧ ¬ k = 23 ∧ ¬ k = 24) := by omega
end Go.Proofs.Ytnlibeaainbipaa.V
namespace Go.Proofs.Ytnlibeaainbipaa.F
open Go.RowKit Go.Proofs.Ytnlibeaainbipaa.M Go.Proofs.Ytnlibeaainbipaa.V
set_option linter.unusedSimpArgs false
set_option linter.unusedVariables false
set_option maxRecDepth 20000
def fieldsV (k : Int) : Value := .tuple #[.string ((form k).getD ⟨#[]⟩), .bool (form k).isSome]
theorem fields_calls (k : Int) (w : World) : callK Try.prog 27 #[.int .u8 k] w fun v w' => v = fieldsV k ∧ w' = w := by
  refine callK_of Try.func27 c27 r27 (by exact Nat.le_of_ble_eq_true rfl) ?_
  rw [m27]
  rcases kinds_cases k with h | h
  · rcases h with rfl|rfl|rfl|rfl|rfl|rfl|rfl|rfl|rfl|rfl|rfl|rfl|rfl|rfl|rfl|rfl|rfl|rfl|rfl|rfl|rfl|rfl|rfl|rfl
    all_goals
      simp -implicitDefEqProofs only [go_sem, seval, Int.reduceBEq]
      exact ⟨rfl, trivial⟩
  · have hf : form k = none := by simp only [form, h, if_false]
    unfold fieldsV
    rw [hf]
    have z1 : (k == 1) = false := by rw [beq_eq_false_iff_ne]; omega
    have z2 : (k == 2) = false := by rw [beq_eq_false_iff_ne]; omega
    have z3 : (k == 3) = false := by rw [beq_eq_false_iff_ne]; omega
    have z4 : (k == 4) = false := by rw [beq_eq_false_iff_ne]; omega
    have z5 : (k == 5) = false := by rw [beq_eq_false_iff_ne]; omega
    have z6 : (k == 6) = false := by rw [beq_eq_false_iff_ne]; omega
    have z7 : (k == 7) = false := by rw [beq_eq_false_iff_ne]; omega
    have z8 : (k == 8) = false := by rw [beq_eq_false_iff_ne]; omega
    have z9 : (k == 9) = false := by rw [beq_eq_false_iff_ne]; omega
    have z10 : (k == 10) = false := by rw [beq_eq_false_iff_ne]; omega
    have z11 : (k == 11) = false := by rw [beq_eq_false_iff_ne]; omega
    have z12 : (k == 12) = false := by rw [beq_eq_false_iff_ne]; omega
    have z13 : (k == 13) = false := by rw [beq_eq_false_iff_ne]; omega
    have z14 : (k == 14) = false := by rw [beq_eq_false_iff_ne]; omega
    have z15 : (k == 15) = false := by rw [beq_eq_false_iff_ne]; omega
    have z16 : (k == 16) = false := by rw [beq_eq_false_iff_ne]; omega
    have z17 : (k == 17) = false := by rw [beq_eq_false_iff_ne]; omega
    have z18 : (k == 18) = false := by rw [beq_eq_false_iff_ne]; omega
    have z19 : (k == 19) = false := by rw [beq_eq_false_iff_ne]; omega
    have z20 : (k == 20) = false := by rw [beq_eq_false_iff_ne]; omega
    have z21 : (k == 21) = false := by rw [beq_eq_false_iff_ne]; omega
    have z22 : (k == 22) = false := by rw [beq_eq_false_iff_ne]; omega
    have z23 : (k == 23) = false := by rw [beq_eq_false_iff_ne]; omega
    have z24 : (k == 24) = false := by rw [beq_eq_false_iff_ne]; omega
    simp -implicitDefEqProofs only [go_sem, seval, z1, z2, z3, z4, z5, z6, z7, z8, z9, z10, z11, z12, z13, z14, z15, z16, z17, z18, z19, z20, z21, z22, z23, z24]
    exact ⟨rfl, trivial⟩
end Go.Proofs.Ytnlibeaainbipaa.F
