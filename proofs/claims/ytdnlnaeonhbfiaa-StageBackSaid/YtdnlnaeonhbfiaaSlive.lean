/- What each law on uploads asks first, and the laws on their number. Conditions: the slice's places hold the operations. -/
import Derived.Test.YtdnlnaeonhbfiaaSsum
namespace Go.Proofs.Ytdnlnaeonhbfiaa.M
open Go.RowKit Go.Proofs.Ytdnlnaeonhbfiaa.V
structure Opd where
  kind : Int
  owner : Int
  name : ByteArray
  n : Int
  page : Int
  b : List Int
def kBytes : Kind (List Int) := Kind.list (Kind.int .u8) Nat.zero_lt_one
def kOp : Kind Opd := ((Kind.int .u8).pair ((Kind.int .u8).pair (Kind.str.pair ((Kind.int .u32).pair ((Kind.int .u32).pair kBytes))))).of fun x => (x.kind, x.owner, x.name, x.n, x.page, x.b)
theorem kOp_cases {U : Nat → Prop} {w : World} {x : Opd} {cs : List Value} (h : kOp.rep U w x cs) : ∃ A c, cs = [.int .u8 x.kind, .int .u8 x.owner, .string x.name, .int .u32 x.n, .int .u32 x.page, .slice A x.b.length c] ∧ (Lit.int .u8 x.kind).wf = true ∧ (Lit.int .u8 x.owner).wf = true ∧ (Lit.int .u32 x.n).wf = true ∧ (Lit.int .u32 x.page).wf = true ∧
    x.b.length ≤ c ∧ c ≤ maxLen ∧ Elems (Kind.int .u8) U w A x.b := by
  obtain ⟨_, _, rfl, ⟨rfl, h1⟩, _, _, rfl, ⟨rfl, h2⟩, _, _, rfl, ⟨rfl, h3⟩, _, _, rfl, ⟨rfl, h4⟩, _, _, rfl, ⟨rfl, h5⟩, h6⟩ := h
  obtain ⟨A, c, rfl, a1, a2, a3⟩ := h6
  exact ⟨A, c, rfl, h1, h2, h4, h5, a1, a2, a3⟩
end Go.Proofs.Ytdnlnaeonhbfiaa.M
namespace Go.Proofs.Ytdnlnaeonhbfiaa.F
open Go.RowKit Go.Proofs.Ytdnlnaeonhbfiaa.M Go.Proofs.Ytdnlnaeonhbfiaa.V
set_option linter.unusedSimpArgs false
set_option linter.unusedVariables false
set_option maxRecDepth 20000

theorem TabStep.then {w w1 w2 : World} {g : Nat} {T1 : Tb} {Ft Ft1 : Nat → Prop} (hf : Fx Ft w w1) (hsub : ∀ k, Ft1 k → Ft k ∨ w.heap.size ≤ k) (h2 : Fx Ft1 w1 w2) : Fx Ft w w2 := hf.new h2 (fun k hk hlt => by rcases hsub k hk with h | h; exact h; omega)
/-- A step of a table that is all new. -/
theorem TabStep.new {w0 w w' : World} {g : Nat} {T' : Tb} {Ft : Nat → Prop} (h : TabStep w w' g T' Ft) (hk : Keep w0 w) (hF : ∀ k, Ft k → w0.heap.size ≤ k) : ∃ Ft', Tab w' g T' Ft' ∧ (∀ k, Ft' k → w0.heap.size ≤ k) ∧ Keep w0 w' := by
  obtain ⟨Ft', h1, h2, h3⟩ := h
  have hs := hk.size
  exact ⟨Ft', h1, fun k hk => by rcases h3 k hk with h | h; exact hF k h; omega, hk.new h2 (fun k hk hlt => by have := hF k hk; omega)⟩
def nameA : ByteArray := ⟨#[97]⟩
theorem t1 : tBegin ⟨[], 0⟩ 7 nameA = (1, 0, ⟨[⟨1, 7, nameA, [], 0⟩], 1⟩) := rfl
theorem t2 : tChunk ⟨[⟨1, 7, nameA, [], 0⟩], 1⟩ 7 1 1 [0] = (0, ⟨[⟨1, 7, nameA, [0], 1⟩], 1⟩) := by kernel_rfl
theorem t3 : tChunk ⟨[⟨1, 7, nameA, [0], 1⟩], 1⟩ 7 1 1 [0] = (130, ⟨[⟨1, 7, nameA, [0], 1⟩], 1⟩) := by kernel_rfl
theorem t4 : tChunk ⟨[⟨1, 7, nameA, [0], 1⟩], 1⟩ 8 1 2 [0] = (130, ⟨[⟨1, 7, nameA, [0], 1⟩], 1⟩) := by kernel_rfl
theorem t5 : tCommit ⟨[⟨1, 7, nameA, [0], 1⟩], 1⟩ 7 1 = (nameA, [], 0, ⟨[], 1⟩) := by kernel_rfl
theorem t6 : tAbort ⟨[], 1⟩ 7 1 = (130, ⟨[], 1⟩) := by kernel_rfl
theorem ok1 : TbOk ⟨[⟨1, 7, nameA, [], 0⟩], 1⟩ := TbOk.empty.begin 7 nameA
theorem bs0 : Bs [0] := fun x hx => by simp at hx; subst hx; decide
theorem ok2 : TbOk ⟨[⟨1, 7, nameA, [0], 1⟩], 1⟩ := by
  have := ok1.chunk 7 1 1 bs0
  rw [t2] at this
  exact this

theorem alive_calls (w : World) : callK Try.prog 8 #[] w fun v w' => v = .bool true ∧ Keep w w' := by
  refine callK_of Try.func8 c8 r8 (by exact Nat.le_of_ble_eq_true rfl) ?_
  rw [m8]
  simp -implicitDefEqProofs only [go_sem, ↓reduceIte, Nat.reduceEqDiff, Int.reduceLT, not_false_eq_true, List.map_toArray, List.map_cons, List.map_nil, Option.isSome_some, Nat.reduceLT, Int.reduceToNat, Int.reducePow, Nat.reduceAdd, Int.toNat_natCast, Bool.not_true, Bool.not_false, Nat.mul_one, decide_true, decide_false, Bool.false_eq_true, List.getElem?_cons_zero, List.getElem?_cons_succ, Int.reduceEq, Option.map_some, Option.map_none, at_add, add_zero', Nat.zero_add, Nat.add_zero, Nat.zero_mul, List.getElem?_toArray, List.length_cons, List.length_nil, allOne_nil, allOne_cons, Bool.and_true, Bool.true_and, Nat.reduceLT, Nat.reduceLeDiff, Int.reduceLE, List.append_toArray, List.cons_append, List.nil_append, List.append_nil]
  refine (new_calls w).mono ?_
  rintro v w1 ⟨g, F1, rfl, h1, hF1, k1⟩
  simp -implicitDefEqProofs only [go_sem, ↓reduceIte, Nat.reduceEqDiff, Int.reduceLT, not_false_eq_true, List.map_toArray, List.map_cons, List.map_nil, Option.isSome_some, Nat.reduceLT, Int.reduceToNat, Int.reducePow, Nat.reduceAdd, Int.toNat_natCast, Bool.not_true, Bool.not_false, Nat.mul_one, decide_true, decide_false, Bool.false_eq_true, List.getElem?_cons_zero, List.getElem?_cons_succ, Int.reduceEq, Option.map_some, Option.map_none, at_add, add_zero', Nat.zero_add, Nat.add_zero, Nat.zero_mul, List.getElem?_toArray, List.length_cons, List.length_nil, allOne_nil, allOne_cons, Bool.and_true, Bool.true_and, Nat.reduceLT, Nat.reduceLeDiff, Int.reduceLE, List.append_toArray, List.cons_append, List.nil_append, List.append_nil]
  refine peqK_of Try.underlying24 ?_
  have q : (some (At g 0) == none) = false := rfl
  simp -implicitDefEqProofs only [go_sem, ↓reduceIte, Nat.reduceEqDiff, Int.reduceLT, not_false_eq_true, List.map_toArray, List.map_cons, List.map_nil, Option.isSome_some, Nat.reduceLT, Int.reduceToNat, Int.reducePow, Nat.reduceAdd, Int.toNat_natCast, Bool.not_true, Bool.not_false, Nat.mul_one, decide_true, decide_false, Bool.false_eq_true, List.getElem?_cons_zero, List.getElem?_cons_succ, Int.reduceEq, Option.map_some, Option.map_none, at_add, add_zero', Nat.zero_add, Nat.add_zero, Nat.zero_mul, List.getElem?_toArray, List.length_cons, List.length_nil, allOne_nil, allOne_cons, Bool.and_true, Bool.true_and, Nat.reduceLT, Nat.reduceLeDiff, Int.reduceLE, List.append_toArray, List.cons_append, List.nil_append, List.append_nil, q]
  refine (begin_calls h1 (by decide) 7 nameA).mono ?_
  rintro v w2 ⟨rfl, st⟩
  rw [t1] at st
  obtain ⟨F2, h2, hF2, k2⟩ := st.new k1 hF1
  rw [t1]
  simp -implicitDefEqProofs only [go_sem, ↓reduceIte, Nat.reduceEqDiff, Int.reduceLT, not_false_eq_true, List.map_toArray, List.map_cons, List.map_nil, Option.isSome_some, Nat.reduceLT, Int.reduceToNat, Int.reducePow, Nat.reduceAdd, Int.toNat_natCast, Bool.not_true, Bool.not_false, Nat.mul_one, decide_true, decide_false, Bool.false_eq_true, List.getElem?_cons_zero, List.getElem?_cons_succ, Int.reduceEq, Option.map_some, Option.map_none, at_add, add_zero', Nat.zero_add, Nat.add_zero, Nat.zero_mul, List.getElem?_toArray, List.length_cons, List.length_nil, allOne_nil, allOne_cons, Bool.and_true, Bool.true_and, Nat.reduceLT, Nat.reduceLeDiff, Int.reduceLE, List.append_toArray, List.cons_append, List.nil_append, List.append_nil]
  refine bsl_one ie8 ?_
  have kA : Keep w2 (w2.alloc (.cells #[.int .u8 0] 5)) := Fx.alloc _ _ _
  have hr : RdI (w2.alloc (.cells #[.int .u8 0] 5)) .u8 (some (At w2.heap.size 0)) [0] := RdI.new w2 5 .u8 [0]
  have h2' := h2.fx kA (fun _ _ x => x)
  have k2' := k2.tr kA
  have el : Elems (Kind.int .u8) (fun k => ¬ F2 k) (w2.alloc (.cells #[.int .u8 0] 5)) (some (At w2.heap.size 0)) [0] := elems_of hr (fun ad e _ => by
    cases e
    exact fun hk => by have := h2.lt _ hk; exact Nat.lt_irrefl _ this) (fun x hx => u8_wf (bs0 x hx).1 (bs0 x hx).2)
  generalize w2.alloc (.cells #[.int .u8 0] 5) = w3 at *
  simp -implicitDefEqProofs only [go_sem, ↓reduceIte, Nat.reduceEqDiff, Int.reduceLT, not_false_eq_true, List.map_toArray, List.map_cons, List.map_nil, Option.isSome_some, Nat.reduceLT, Int.reduceToNat, Int.reducePow, Nat.reduceAdd, Int.toNat_natCast, Bool.not_true, Bool.not_false, Nat.mul_one, decide_true, decide_false, Bool.false_eq_true, List.getElem?_cons_zero, List.getElem?_cons_succ, Int.reduceEq, Option.map_some, Option.map_none, at_add, add_zero', Nat.zero_add, Nat.add_zero, Nat.zero_mul, List.getElem?_toArray, List.length_cons, List.length_nil, allOne_nil, allOne_cons, Bool.and_true, Bool.true_and, Nat.reduceLT, Nat.reduceLeDiff, Int.reduceLE, List.append_toArray, List.cons_append, List.nil_append, List.append_nil]
  refine (chunk_calls (b := [0]) h2' ok1 7 1 1 (by decide) el (fun k hk => hk)).mono ?_
  rintro v w4 ⟨rfl, st⟩
  rw [t2] at st
  obtain ⟨F4, h4, hF4, k4⟩ := st.new k2' hF2
  rw [t2]
  simp -implicitDefEqProofs only [go_sem, ↓reduceIte, Nat.reduceEqDiff, Int.reduceLT, not_false_eq_true, List.map_toArray, List.map_cons, List.map_nil, Option.isSome_some, Nat.reduceLT, Int.reduceToNat, Int.reducePow, Nat.reduceAdd, Int.toNat_natCast, Bool.not_true, Bool.not_false, Nat.mul_one, decide_true, decide_false, Bool.false_eq_true, List.getElem?_cons_zero, List.getElem?_cons_succ, Int.reduceEq, Option.map_some, Option.map_none, at_add, add_zero', Nat.zero_add, Nat.add_zero, Nat.zero_mul, List.getElem?_toArray, List.length_cons, List.length_nil, allOne_nil, allOne_cons, Bool.and_true, Bool.true_and, Nat.reduceLT, Nat.reduceLeDiff, Int.reduceLE, List.append_toArray, List.cons_append, List.nil_append, List.append_nil]
  refine bsl_one ie8 ?_
  have kA : Keep w4 (w4.alloc (.cells #[.int .u8 0] 5)) := Fx.alloc _ _ _
  have hr : RdI (w4.alloc (.cells #[.int .u8 0] 5)) .u8 (some (At w4.heap.size 0)) [0] := RdI.new w4 5 .u8 [0]
  have h4' := h4.fx kA (fun _ _ x => x)
  have k4' := k4.tr kA
  have el : Elems (Kind.int .u8) (fun k => ¬ F4 k) (w4.alloc (.cells #[.int .u8 0] 5)) (some (At w4.heap.size 0)) [0] := elems_of hr (fun ad e _ => by
    cases e
    exact fun hk => by have := h4.lt _ hk; exact Nat.lt_irrefl _ this) (fun x hx => u8_wf (bs0 x hx).1 (bs0 x hx).2)
  generalize w4.alloc (.cells #[.int .u8 0] 5) = w5 at *
  simp -implicitDefEqProofs only [go_sem, ↓reduceIte, Nat.reduceEqDiff, Int.reduceLT, not_false_eq_true, List.map_toArray, List.map_cons, List.map_nil, Option.isSome_some, Nat.reduceLT, Int.reduceToNat, Int.reducePow, Nat.reduceAdd, Int.toNat_natCast, Bool.not_true, Bool.not_false, Nat.mul_one, decide_true, decide_false, Bool.false_eq_true, List.getElem?_cons_zero, List.getElem?_cons_succ, Int.reduceEq, Option.map_some, Option.map_none, at_add, add_zero', Nat.zero_add, Nat.add_zero, Nat.zero_mul, List.getElem?_toArray, List.length_cons, List.length_nil, allOne_nil, allOne_cons, Bool.and_true, Bool.true_and, Nat.reduceLT, Nat.reduceLeDiff, Int.reduceLE, List.append_toArray, List.cons_append, List.nil_append, List.append_nil]
  refine (chunk_calls (b := [0]) h4' ok2 7 1 1 (by decide) el (fun k hk => hk)).mono ?_
  rintro v w6 ⟨rfl, st⟩
  rw [t3] at st
  obtain ⟨F6, h6, hF6, k6⟩ := st.new k4' hF4
  rw [t3]
  simp -implicitDefEqProofs only [go_sem, ↓reduceIte, Nat.reduceEqDiff, Int.reduceLT, not_false_eq_true, List.map_toArray, List.map_cons, List.map_nil, Option.isSome_some, Nat.reduceLT, Int.reduceToNat, Int.reducePow, Nat.reduceAdd, Int.toNat_natCast, Bool.not_true, Bool.not_false, Nat.mul_one, decide_true, decide_false, Bool.false_eq_true, List.getElem?_cons_zero, List.getElem?_cons_succ, Int.reduceEq, Option.map_some, Option.map_none, at_add, add_zero', Nat.zero_add, Nat.add_zero, Nat.zero_mul, List.getElem?_toArray, List.length_cons, List.length_nil, allOne_nil, allOne_cons, Bool.and_true, Bool.true_and, Nat.reduceLT, Nat.reduceLeDiff, Int.reduceLE, List.append_toArray, List.cons_append, List.nil_append, List.append_nil]
  refine bsl_one ie8 ?_
  have kA : Keep w6 (w6.alloc (.cells #[.int .u8 0] 5)) := Fx.alloc _ _ _
  have hr : RdI (w6.alloc (.cells #[.int .u8 0] 5)) .u8 (some (At w6.heap.size 0)) [0] := RdI.new w6 5 .u8 [0]
  have h6' := h6.fx kA (fun _ _ x => x)
  have k6' := k6.tr kA
  have el : Elems (Kind.int .u8) (fun k => ¬ F6 k) (w6.alloc (.cells #[.int .u8 0] 5)) (some (At w6.heap.size 0)) [0] := elems_of hr (fun ad e _ => by
    cases e
    exact fun hk => by have := h6.lt _ hk; exact Nat.lt_irrefl _ this) (fun x hx => u8_wf (bs0 x hx).1 (bs0 x hx).2)
  generalize w6.alloc (.cells #[.int .u8 0] 5) = w7 at *
  simp -implicitDefEqProofs only [go_sem, ↓reduceIte, Nat.reduceEqDiff, Int.reduceLT, not_false_eq_true, List.map_toArray, List.map_cons, List.map_nil, Option.isSome_some, Nat.reduceLT, Int.reduceToNat, Int.reducePow, Nat.reduceAdd, Int.toNat_natCast, Bool.not_true, Bool.not_false, Nat.mul_one, decide_true, decide_false, Bool.false_eq_true, List.getElem?_cons_zero, List.getElem?_cons_succ, Int.reduceEq, Option.map_some, Option.map_none, at_add, add_zero', Nat.zero_add, Nat.add_zero, Nat.zero_mul, List.getElem?_toArray, List.length_cons, List.length_nil, allOne_nil, allOne_cons, Bool.and_true, Bool.true_and, Nat.reduceLT, Nat.reduceLeDiff, Int.reduceLE, List.append_toArray, List.cons_append, List.nil_append, List.append_nil]
  refine (chunk_calls (b := [0]) h6' ok2 8 1 2 (by decide) el (fun k hk => hk)).mono ?_
  rintro v w8 ⟨rfl, st⟩
  rw [t4] at st
  obtain ⟨F8, h8, hF8, k8⟩ := st.new k6' hF6
  rw [t4]
  simp -implicitDefEqProofs only [go_sem, ↓reduceIte, Nat.reduceEqDiff, Int.reduceLT, not_false_eq_true, List.map_toArray, List.map_cons, List.map_nil, Option.isSome_some, Nat.reduceLT, Int.reduceToNat, Int.reducePow, Nat.reduceAdd, Int.toNat_natCast, Bool.not_true, Bool.not_false, Nat.mul_one, decide_true, decide_false, Bool.false_eq_true, List.getElem?_cons_zero, List.getElem?_cons_succ, Int.reduceEq, Option.map_some, Option.map_none, at_add, add_zero', Nat.zero_add, Nat.add_zero, Nat.zero_mul, List.getElem?_toArray, List.length_cons, List.length_nil, allOne_nil, allOne_cons, Bool.and_true, Bool.true_and, Nat.reduceLT, Nat.reduceLeDiff, Int.reduceLE, List.append_toArray, List.cons_append, List.nil_append, List.append_nil]
  refine (commit_calls h8 ok2 7 1).mono ?_
  rintro v w9 ⟨v1, rfl, hrep, st⟩
  rw [t5] at st hrep
  obtain ⟨F9, h9, hF9, k9⟩ := st.new k8 hF8
  obtain ⟨A, c, e, _⟩ := list_one hrep
  cases e
  rw [t5]
  have z0 : (((0 : Nat) : Int) == 0) = true := rfl
  have zn : (nameA.toList == ({ data := #[97] } : ByteArray).toList) = true := beq_self_eq_true nameA.toList
  simp -implicitDefEqProofs only [go_sem, ↓reduceIte, Nat.reduceEqDiff, Int.reduceLT, not_false_eq_true, List.map_toArray, List.map_cons, List.map_nil, Option.isSome_some, Nat.reduceLT, Int.reduceToNat, Int.reducePow, Nat.reduceAdd, Int.toNat_natCast, Bool.not_true, Bool.not_false, Nat.mul_one, decide_true, decide_false, Bool.false_eq_true, List.getElem?_cons_zero, List.getElem?_cons_succ, Int.reduceEq, Option.map_some, Option.map_none, at_add, add_zero', Nat.zero_add, Nat.add_zero, Nat.zero_mul, List.getElem?_toArray, List.length_cons, List.length_nil, allOne_nil, allOne_cons, Bool.and_true, Bool.true_and, Nat.reduceLT, Nat.reduceLeDiff, Int.reduceLE, List.append_toArray, List.cons_append, List.nil_append, List.append_nil, beq_self_eq_true, z0, zn]
  refine (abort_calls h9 7 1).mono ?_
  rintro v w10 ⟨rfl, st⟩
  obtain ⟨F10, _, _, k10⟩ := st.new k9 hF9
  rw [t6]
  simp -implicitDefEqProofs only [go_sem, ↓reduceIte, Nat.reduceEqDiff, Int.reduceLT, not_false_eq_true, List.map_toArray, List.map_cons, List.map_nil, Option.isSome_some, Nat.reduceLT, Int.reduceToNat, Int.reducePow, Nat.reduceAdd, Int.toNat_natCast, Bool.not_true, Bool.not_false, Nat.mul_one, decide_true, decide_false, Bool.false_eq_true, List.getElem?_cons_zero, List.getElem?_cons_succ, Int.reduceEq, Option.map_some, Option.map_none, at_add, add_zero', Nat.zero_add, Nat.add_zero, Nat.zero_mul, List.getElem?_toArray, List.length_cons, List.length_nil, allOne_nil, allOne_cons, Bool.and_true, Bool.true_and, Nat.reduceLT, Nat.reduceLeDiff, Int.reduceLE, List.append_toArray, List.cons_append, List.nil_append, List.append_nil, beq_self_eq_true]
  exact ⟨trivial, k10⟩
end Go.Proofs.Ytdnlnaeonhbfiaa.F
