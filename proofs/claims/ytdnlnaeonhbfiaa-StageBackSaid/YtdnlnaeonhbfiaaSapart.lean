/- The law that nobody but its owner touches an upload. Conditions: the slice's places hold the bytes. -/
import Derived.Test.YtdnlnaeonhbfiaaSrow
namespace Go.Proofs.Ytdnlnaeonhbfiaa.F
open Go.RowKit Go.Proofs.Ytdnlnaeonhbfiaa.M Go.Proofs.Ytdnlnaeonhbfiaa.V
set_option linter.unusedSimpArgs false
set_option linter.unusedVariables false
set_option maxRecDepth 20000

def TA (owner : Int) : Tb := ⟨[⟨1, owner, nameA, [], 0⟩], 1⟩
def TB (owner : Int) : Tb := ⟨[⟨1, owner, nameA, [0], 1⟩], 1⟩
theorem a1 (owner : Int) : tBegin ⟨[], 0⟩ owner nameA = (1, 0, TA owner) := rfl
theorem w0 : IntKind.u32.wrap 0 = 0 := rfl
theorem w1' : IntKind.u32.wrap 1 = 1 := rfl
theorem a2 (owner : Int) : tChunk (TA owner) owner 1 1 [0] = (0, TB owner) := by
  simp [tChunk, TA, TB, fUp, w0, w1']
theorem f3 {owner other : Int} (h : owner ≠ other) (n : Int) : fUp other n (TB owner).l 0 = none := by
  simp [TB, fUp, h]
theorem f7 {owner n : Int} (h : n ≠ 1) : fUp owner n (TB owner).l 0 = none := by
  simp [TB, fUp, Ne.symm h]
theorem okA (owner : Int) : TbOk (TA owner) := by
  have := TbOk.empty.begin owner nameA
  rw [a1] at this; exact this
theorem okB (owner : Int) : TbOk (TB owner) := by
  have := (okA owner).chunk owner 1 1 bs0
  rw [a2] at this; exact this
theorem a6 {owner other : Int} (h : owner ≠ other) : tLeave (TB owner) other = (0, TB owner) := by
  have : (owner == other) = false := by rw [beq_eq_false_iff_ne]; exact h
  simp [tLeave, TB, this]
theorem a8 (owner : Int) : tLeave (TB owner) owner = (1, ⟨[], 1⟩) := by
  simp [tLeave, TB]

theorem apart_walk {w : World} {A : Option Addr} {b : List Int} {c : Nat} {owner other n page : Int} (hl : b.length ≤ c) (hc : c ≤ maxLen) (he : Elems (Kind.int .u8) (fun k => k < w.heap.size) w A b) :
    callK Try.prog 6 #[.int .u64 owner, .int .u64 other, .int .u32 n, .int .u32 page, .slice A b.length c] w fun v w' => v = .bool true ∧ Keep w w' := by
  refine callK_of Try.func6 c6 r6 (by exact Nat.le_of_ble_eq_true rfl) ?_
  rw [m6]
  simp -implicitDefEqProofs only [go_sem, ↓reduceIte, Nat.reduceEqDiff, Int.reduceLT, not_false_eq_true, List.map_toArray, List.map_cons, List.map_nil, Option.isSome_some, Nat.reduceLT, Int.reduceToNat, Int.reducePow, Nat.reduceAdd, Int.toNat_natCast, Bool.not_true, Bool.not_false, Nat.mul_one, decide_true, decide_false, Bool.false_eq_true, List.getElem?_cons_zero, List.getElem?_cons_succ, Int.reduceEq, Option.map_some, Option.map_none, at_add, add_zero', Nat.zero_add, Nat.add_zero, Nat.zero_mul, List.getElem?_toArray, List.length_cons, List.length_nil, allOne_nil, allOne_cons, Bool.and_true, Bool.true_and, Nat.reduceLT, Nat.reduceLeDiff, Int.reduceLE, List.append_toArray, List.cons_append, List.nil_append, List.append_nil]
  refine (alive_calls w).mono ?_
  rintro v w1 ⟨rfl, k1⟩
  by_cases ho : owner = other
  · have z : (owner == other) = true := by rw [beq_iff_eq]; exact ho
    simp -implicitDefEqProofs only [go_sem, ↓reduceIte, Nat.reduceEqDiff, Int.reduceLT, not_false_eq_true, List.map_toArray, List.map_cons, List.map_nil, Option.isSome_some, Nat.reduceLT, Int.reduceToNat, Int.reducePow, Nat.reduceAdd, Int.toNat_natCast, Bool.not_true, Bool.not_false, Nat.mul_one, decide_true, decide_false, Bool.false_eq_true, List.getElem?_cons_zero, List.getElem?_cons_succ, Int.reduceEq, Option.map_some, Option.map_none, at_add, add_zero', Nat.zero_add, Nat.add_zero, Nat.zero_mul, List.getElem?_toArray, List.length_cons, List.length_nil, allOne_nil, allOne_cons, Bool.and_true, Bool.true_and, Nat.reduceLT, Nat.reduceLeDiff, Int.reduceLE, List.append_toArray, List.cons_append, List.nil_append, List.append_nil, z]
    exact ⟨trivial, k1⟩
  have z : (owner == other) = false := by rw [beq_eq_false_iff_ne]; exact ho
  by_cases hbig : (4000 : Int) < (b.length : Int)
  · simp -implicitDefEqProofs only [go_sem, ↓reduceIte, Nat.reduceEqDiff, Int.reduceLT, not_false_eq_true, List.map_toArray, List.map_cons, List.map_nil, Option.isSome_some, Nat.reduceLT, Int.reduceToNat, Int.reducePow, Nat.reduceAdd, Int.toNat_natCast, Bool.not_true, Bool.not_false, Nat.mul_one, decide_true, decide_false, Bool.false_eq_true, List.getElem?_cons_zero, List.getElem?_cons_succ, Int.reduceEq, Option.map_some, Option.map_none, at_add, add_zero', Nat.zero_add, Nat.add_zero, Nat.zero_mul, List.getElem?_toArray, List.length_cons, List.length_nil, allOne_nil, allOne_cons, Bool.and_true, Bool.true_and, Nat.reduceLT, Nat.reduceLeDiff, Int.reduceLE, List.append_toArray, List.cons_append, List.nil_append, List.append_nil, z, hbig]
    exact ⟨trivial, k1⟩
  have hbl : b.length ≤ 9223372036854775807 := by omega
  simp -implicitDefEqProofs only [go_sem, ↓reduceIte, Nat.reduceEqDiff, Int.reduceLT, not_false_eq_true, List.map_toArray, List.map_cons, List.map_nil, Option.isSome_some, Nat.reduceLT, Int.reduceToNat, Int.reducePow, Nat.reduceAdd, Int.toNat_natCast, Bool.not_true, Bool.not_false, Nat.mul_one, decide_true, decide_false, Bool.false_eq_true, List.getElem?_cons_zero, List.getElem?_cons_succ, Int.reduceEq, Option.map_some, Option.map_none, at_add, add_zero', Nat.zero_add, Nat.add_zero, Nat.zero_mul, List.getElem?_toArray, List.length_cons, List.length_nil, allOne_nil, allOne_cons, Bool.and_true, Bool.true_and, Nat.reduceLT, Nat.reduceLeDiff, Int.reduceLE, List.append_toArray, List.cons_append, List.nil_append, List.append_nil, z, hbig]
  refine (new_calls w1).mono ?_
  rintro v w2 ⟨g, F2, rfl, h2, hF2, k2⟩
  have s1 := k1.size
  have kk2 := k1.tr k2
  have hF2' : ∀ k, F2 k → w.heap.size ≤ k := fun k hk => by have := hF2 k hk; omega
  simp -implicitDefEqProofs only [go_sem, ↓reduceIte, Nat.reduceEqDiff, Int.reduceLT, not_false_eq_true, List.map_toArray, List.map_cons, List.map_nil, Option.isSome_some, Nat.reduceLT, Int.reduceToNat, Int.reducePow, Nat.reduceAdd, Int.toNat_natCast, Bool.not_true, Bool.not_false, Nat.mul_one, decide_true, decide_false, Bool.false_eq_true, List.getElem?_cons_zero, List.getElem?_cons_succ, Int.reduceEq, Option.map_some, Option.map_none, at_add, add_zero', Nat.zero_add, Nat.add_zero, Nat.zero_mul, List.getElem?_toArray, List.length_cons, List.length_nil, allOne_nil, allOne_cons, Bool.and_true, Bool.true_and, Nat.reduceLT, Nat.reduceLeDiff, Int.reduceLE, List.append_toArray, List.cons_append, List.nil_append, List.append_nil]
  refine (begin_calls h2 (by decide) owner nameA).mono ?_
  rintro v w3 ⟨rfl, st⟩
  rw [a1] at st
  obtain ⟨F3, h3, hF3, k3⟩ := st.new kk2 hF2'
  rw [a1]
  simp -implicitDefEqProofs only [go_sem, ↓reduceIte, Nat.reduceEqDiff, Int.reduceLT, not_false_eq_true, List.map_toArray, List.map_cons, List.map_nil, Option.isSome_some, Nat.reduceLT, Int.reduceToNat, Int.reducePow, Nat.reduceAdd, Int.toNat_natCast, Bool.not_true, Bool.not_false, Nat.mul_one, decide_true, decide_false, Bool.false_eq_true, List.getElem?_cons_zero, List.getElem?_cons_succ, Int.reduceEq, Option.map_some, Option.map_none, at_add, add_zero', Nat.zero_add, Nat.add_zero, Nat.zero_mul, List.getElem?_toArray, List.length_cons, List.length_nil, allOne_nil, allOne_cons, Bool.and_true, Bool.true_and, Nat.reduceLT, Nat.reduceLeDiff, Int.reduceLE, List.append_toArray, List.cons_append, List.nil_append, List.append_nil]
  refine bsl_one ie8 ?_
  have kA : Keep w3 (w3.alloc (.cells #[.int .u8 0] 5)) := Fx.alloc _ _ _
  have hr : RdI (w3.alloc (.cells #[.int .u8 0] 5)) .u8 (some (At w3.heap.size 0)) [0] := RdI.new w3 5 .u8 [0]
  have h3' := h3.fx kA (fun _ _ x => x)
  have k3' := k3.tr kA
  have el : Elems (Kind.int .u8) (fun k => ¬ F3 k) (w3.alloc (.cells #[.int .u8 0] 5)) (some (At w3.heap.size 0)) [0] := elems_of hr (fun ad e _ => by
    cases e
    exact fun hk => by have := h3.lt _ hk; exact Nat.lt_irrefl _ this) (fun x hx => u8_wf (bs0 x hx).1 (bs0 x hx).2)
  generalize w3.alloc (.cells #[.int .u8 0] 5) = w4 at *
  simp -implicitDefEqProofs only [go_sem, ↓reduceIte, Nat.reduceEqDiff, Int.reduceLT, not_false_eq_true, List.map_toArray, List.map_cons, List.map_nil, Option.isSome_some, Nat.reduceLT, Int.reduceToNat, Int.reducePow, Nat.reduceAdd, Int.toNat_natCast, Bool.not_true, Bool.not_false, Nat.mul_one, decide_true, decide_false, Bool.false_eq_true, List.getElem?_cons_zero, List.getElem?_cons_succ, Int.reduceEq, Option.map_some, Option.map_none, at_add, add_zero', Nat.zero_add, Nat.add_zero, Nat.zero_mul, List.getElem?_toArray, List.length_cons, List.length_nil, allOne_nil, allOne_cons, Bool.and_true, Bool.true_and, Nat.reduceLT, Nat.reduceLeDiff, Int.reduceLE, List.append_toArray, List.cons_append, List.nil_append, List.append_nil]
  refine (chunk_calls (b := [0]) h3' (okA owner) owner 1 1 (by decide) el (fun k hk => hk)).mono ?_
  rintro v w5 ⟨rfl, st⟩
  rw [a2] at st
  obtain ⟨F5, h5, hF5, k5⟩ := st.new k3' hF3
  simp -implicitDefEqProofs only [go_sem, ↓reduceIte, Nat.reduceEqDiff, Int.reduceLT, not_false_eq_true, List.map_toArray, List.map_cons, List.map_nil, Option.isSome_some, Nat.reduceLT, Int.reduceToNat, Int.reducePow, Nat.reduceAdd, Int.toNat_natCast, Bool.not_true, Bool.not_false, Nat.mul_one, decide_true, decide_false, Bool.false_eq_true, List.getElem?_cons_zero, List.getElem?_cons_succ, Int.reduceEq, Option.map_some, Option.map_none, at_add, add_zero', Nat.zero_add, Nat.add_zero, Nat.zero_mul, List.getElem?_toArray, List.length_cons, List.length_nil, allOne_nil, allOne_cons, Bool.and_true, Bool.true_and, Nat.reduceLT, Nat.reduceLeDiff, Int.reduceLE, List.append_toArray, List.cons_append, List.nil_append, List.append_nil]
  refine (commit_calls h5 (okB owner) other 1).mono ?_
  rintro v w6 ⟨v1, rfl, hrep, st⟩
  have a3 : tCommit (TB owner) other 1 = (⟨#[]⟩, [], 130, TB owner) := by simp [tCommit, f3 ho]
  rw [a3] at st
  obtain ⟨F6, h6, hF6, k6⟩ := st.new k5 hF5
  rw [a3]
  simp -implicitDefEqProofs only [go_sem, ↓reduceIte, Nat.reduceEqDiff, Int.reduceLT, not_false_eq_true, List.map_toArray, List.map_cons, List.map_nil, Option.isSome_some, Nat.reduceLT, Int.reduceToNat, Int.reducePow, Nat.reduceAdd, Int.toNat_natCast, Bool.not_true, Bool.not_false, Nat.mul_one, decide_true, decide_false, Bool.false_eq_true, List.getElem?_cons_zero, List.getElem?_cons_succ, Int.reduceEq, Option.map_some, Option.map_none, at_add, add_zero', Nat.zero_add, Nat.add_zero, Nat.zero_mul, List.getElem?_toArray, List.length_cons, List.length_nil, allOne_nil, allOne_cons, Bool.and_true, Bool.true_and, Nat.reduceLT, Nat.reduceLeDiff, Int.reduceLE, List.append_toArray, List.cons_append, List.nil_append, List.append_nil]
  refine (chunk_calls (U := fun k => k < w.heap.size) (b := b) h6 (okB owner) other 1 page hbl (he.keep k6) (fun k hk hf => by have := hF6 k hf; omega)).mono ?_
  rintro v w7 ⟨rfl, st⟩
  have a4 : tChunk (TB owner) other 1 page b = (130, TB owner) := by simp [tChunk, f3 ho]
  rw [a4] at st
  obtain ⟨F7, h7, hF7, k7⟩ := st.new k6 hF6
  rw [a4]
  have y1 : ((130 : Int) != 130) = false := rfl
  simp -implicitDefEqProofs only [go_sem, ↓reduceIte, Nat.reduceEqDiff, Int.reduceLT, not_false_eq_true, List.map_toArray, List.map_cons, List.map_nil, Option.isSome_some, Nat.reduceLT, Int.reduceToNat, Int.reducePow, Nat.reduceAdd, Int.toNat_natCast, Bool.not_true, Bool.not_false, Nat.mul_one, decide_true, decide_false, Bool.false_eq_true, List.getElem?_cons_zero, List.getElem?_cons_succ, Int.reduceEq, Option.map_some, Option.map_none, at_add, add_zero', Nat.zero_add, Nat.add_zero, Nat.zero_mul, List.getElem?_toArray, List.length_cons, List.length_nil, allOne_nil, allOne_cons, Bool.and_true, Bool.true_and, Nat.reduceLT, Nat.reduceLeDiff, Int.reduceLE, List.append_toArray, List.cons_append, List.nil_append, List.append_nil, y1]
  refine (abort_calls h7 other 1).mono ?_
  rintro v w8 ⟨rfl, st⟩
  have a5 : tAbort (TB owner) other 1 = (130, TB owner) := by simp [tAbort, f3 ho]
  rw [a5] at st
  obtain ⟨F8, h8, hF8, k8⟩ := st.new k7 hF7
  rw [a5]
  simp -implicitDefEqProofs only [go_sem, ↓reduceIte, Nat.reduceEqDiff, Int.reduceLT, not_false_eq_true, List.map_toArray, List.map_cons, List.map_nil, Option.isSome_some, Nat.reduceLT, Int.reduceToNat, Int.reducePow, Nat.reduceAdd, Int.toNat_natCast, Bool.not_true, Bool.not_false, Nat.mul_one, decide_true, decide_false, Bool.false_eq_true, List.getElem?_cons_zero, List.getElem?_cons_succ, Int.reduceEq, Option.map_some, Option.map_none, at_add, add_zero', Nat.zero_add, Nat.add_zero, Nat.zero_mul, List.getElem?_toArray, List.length_cons, List.length_nil, allOne_nil, allOne_cons, Bool.and_true, Bool.true_and, Nat.reduceLT, Nat.reduceLeDiff, Int.reduceLE, List.append_toArray, List.cons_append, List.nil_append, List.append_nil, y1]
  refine (leave_calls h8 (okB owner) other).mono ?_
  rintro v w9 ⟨rfl, st⟩
  rw [a6 ho] at st
  obtain ⟨F9, h9, hF9, k9⟩ := st.new k8 hF8
  rw [a6 ho]
  have y2 : ((0 : Int) != 0) = false := rfl
  by_cases hn : n = 1
  case' pos =>
    have y3 : (n != 1) = false := by rw [hn]; rfl
    simp -implicitDefEqProofs only [go_sem, ↓reduceIte, Nat.reduceEqDiff, Int.reduceLT, not_false_eq_true, List.map_toArray, List.map_cons, List.map_nil, Option.isSome_some, Nat.reduceLT, Int.reduceToNat, Int.reducePow, Nat.reduceAdd, Int.toNat_natCast, Bool.not_true, Bool.not_false, Nat.mul_one, decide_true, decide_false, Bool.false_eq_true, List.getElem?_cons_zero, List.getElem?_cons_succ, Int.reduceEq, Option.map_some, Option.map_none, at_add, add_zero', Nat.zero_add, Nat.add_zero, Nat.zero_mul, List.getElem?_toArray, List.length_cons, List.length_nil, allOne_nil, allOne_cons, Bool.and_true, Bool.true_and, Nat.reduceLT, Nat.reduceLeDiff, Int.reduceLE, List.append_toArray, List.cons_append, List.nil_append, List.append_nil, y1, y2, y3]
    have fin : ∃ (wz : World) (F : Nat → Prop), wz = w9 ∧ Tab wz g (TB owner) F ∧ (∀ k, F k → w.heap.size ≤ k) ∧ Keep w wz := ⟨_, _, rfl, h9, hF9, k9⟩
    obtain ⟨wz, Fz, rfl, hz, hFz, kz⟩ := fin
  case' neg =>
    have y3 : (n != 1) = true := by rw [bne_iff_ne]; exact hn
    simp -implicitDefEqProofs only [go_sem, ↓reduceIte, Nat.reduceEqDiff, Int.reduceLT, not_false_eq_true, List.map_toArray, List.map_cons, List.map_nil, Option.isSome_some, Nat.reduceLT, Int.reduceToNat, Int.reducePow, Nat.reduceAdd, Int.toNat_natCast, Bool.not_true, Bool.not_false, Nat.mul_one, decide_true, decide_false, Bool.false_eq_true, List.getElem?_cons_zero, List.getElem?_cons_succ, Int.reduceEq, Option.map_some, Option.map_none, at_add, add_zero', Nat.zero_add, Nat.add_zero, Nat.zero_mul, List.getElem?_toArray, List.length_cons, List.length_nil, allOne_nil, allOne_cons, Bool.and_true, Bool.true_and, Nat.reduceLT, Nat.reduceLeDiff, Int.reduceLE, List.append_toArray, List.cons_append, List.nil_append, List.append_nil, y1, y2, y3]
    refine (chunk_calls (U := fun k => k < w.heap.size) (b := b) h9 (okB owner) owner n 1 hbl (he.keep k9) (fun k hk hf => by have := hF9 k hf; omega)).mono ?_
    rintro v wa ⟨rfl, st⟩
    have a7 : tChunk (TB owner) owner n 1 b = (130, TB owner) := by simp [tChunk, f7 hn]
    rw [a7] at st
    obtain ⟨Fa, ha, hFa, ka⟩ := st.new k9 hF9
    rw [a7]
    simp -implicitDefEqProofs only [go_sem, ↓reduceIte, Nat.reduceEqDiff, Int.reduceLT, not_false_eq_true, List.map_toArray, List.map_cons, List.map_nil, Option.isSome_some, Nat.reduceLT, Int.reduceToNat, Int.reducePow, Nat.reduceAdd, Int.toNat_natCast, Bool.not_true, Bool.not_false, Nat.mul_one, decide_true, decide_false, Bool.false_eq_true, List.getElem?_cons_zero, List.getElem?_cons_succ, Int.reduceEq, Option.map_some, Option.map_none, at_add, add_zero', Nat.zero_add, Nat.add_zero, Nat.zero_mul, List.getElem?_toArray, List.length_cons, List.length_nil, allOne_nil, allOne_cons, Bool.and_true, Bool.true_and, Nat.reduceLT, Nat.reduceLeDiff, Int.reduceLE, List.append_toArray, List.cons_append, List.nil_append, List.append_nil, y1]
    refine (abort_calls ha owner n).mono ?_
    rintro v wz ⟨rfl, st⟩
    have a9 : tAbort (TB owner) owner n = (130, TB owner) := by simp [tAbort, f7 hn]
    rw [a9] at st
    obtain ⟨Fz, hz, hFz, kz⟩ := st.new ka hFa
    rw [a9]
    simp -implicitDefEqProofs only [go_sem, ↓reduceIte, Nat.reduceEqDiff, Int.reduceLT, not_false_eq_true, List.map_toArray, List.map_cons, List.map_nil, Option.isSome_some, Nat.reduceLT, Int.reduceToNat, Int.reducePow, Nat.reduceAdd, Int.toNat_natCast, Bool.not_true, Bool.not_false, Nat.mul_one, decide_true, decide_false, Bool.false_eq_true, List.getElem?_cons_zero, List.getElem?_cons_succ, Int.reduceEq, Option.map_some, Option.map_none, at_add, add_zero', Nat.zero_add, Nat.add_zero, Nat.zero_mul, List.getElem?_toArray, List.length_cons, List.length_nil, allOne_nil, allOne_cons, Bool.and_true, Bool.true_and, Nat.reduceLT, Nat.reduceLeDiff, Int.reduceLE, List.append_toArray, List.cons_append, List.nil_append, List.append_nil, y1]
  all_goals
    refine (len_calls hz).mono ?_
    rintro v wb ⟨rfl, rfl⟩
    have y4 : (((TB owner).l.length : Int) == 1) = true := rfl
    simp -implicitDefEqProofs only [go_sem, ↓reduceIte, Nat.reduceEqDiff, Int.reduceLT, not_false_eq_true, List.map_toArray, List.map_cons, List.map_nil, Option.isSome_some, Nat.reduceLT, Int.reduceToNat, Int.reducePow, Nat.reduceAdd, Int.toNat_natCast, Bool.not_true, Bool.not_false, Nat.mul_one, decide_true, decide_false, Bool.false_eq_true, List.getElem?_cons_zero, List.getElem?_cons_succ, Int.reduceEq, Option.map_some, Option.map_none, at_add, add_zero', Nat.zero_add, Nat.add_zero, Nat.zero_mul, List.getElem?_toArray, List.length_cons, List.length_nil, allOne_nil, allOne_cons, Bool.and_true, Bool.true_and, Nat.reduceLT, Nat.reduceLeDiff, Int.reduceLE, List.append_toArray, List.cons_append, List.nil_append, List.append_nil, y4]
    refine (bytes_calls hz (okB owner)).mono ?_
    rintro v wc ⟨rfl, kc⟩
    have y5 : ((tBytes (TB owner).l : Int) == 1) = true := rfl
    simp -implicitDefEqProofs only [go_sem, ↓reduceIte, Nat.reduceEqDiff, Int.reduceLT, not_false_eq_true, List.map_toArray, List.map_cons, List.map_nil, Option.isSome_some, Nat.reduceLT, Int.reduceToNat, Int.reducePow, Nat.reduceAdd, Int.toNat_natCast, Bool.not_true, Bool.not_false, Nat.mul_one, decide_true, decide_false, Bool.false_eq_true, List.getElem?_cons_zero, List.getElem?_cons_succ, Int.reduceEq, Option.map_some, Option.map_none, at_add, add_zero', Nat.zero_add, Nat.add_zero, Nat.zero_mul, List.getElem?_toArray, List.length_cons, List.length_nil, allOne_nil, allOne_cons, Bool.and_true, Bool.true_and, Nat.reduceLT, Nat.reduceLeDiff, Int.reduceLE, List.append_toArray, List.cons_append, List.nil_append, List.append_nil, y5]
    refine (leave_calls (hz.fx kc (fun _ _ x => x)) (okB owner) owner).mono ?_
    rintro v wd ⟨rfl, st⟩
    rw [a8] at st
    obtain ⟨Fd, hd, hFd, kd⟩ := st.new (kz.tr kc) hFz
    rw [a8]
    have y6 : ((1 : Int) == 1) = true := rfl
    simp -implicitDefEqProofs only [go_sem, ↓reduceIte, Nat.reduceEqDiff, Int.reduceLT, not_false_eq_true, List.map_toArray, List.map_cons, List.map_nil, Option.isSome_some, Nat.reduceLT, Int.reduceToNat, Int.reducePow, Nat.reduceAdd, Int.toNat_natCast, Bool.not_true, Bool.not_false, Nat.mul_one, decide_true, decide_false, Bool.false_eq_true, List.getElem?_cons_zero, List.getElem?_cons_succ, Int.reduceEq, Option.map_some, Option.map_none, at_add, add_zero', Nat.zero_add, Nat.add_zero, Nat.zero_mul, List.getElem?_toArray, List.length_cons, List.length_nil, allOne_nil, allOne_cons, Bool.and_true, Bool.true_and, Nat.reduceLT, Nat.reduceLeDiff, Int.reduceLE, List.append_toArray, List.cons_append, List.nil_append, List.append_nil, y6]
    refine (len_calls hd).mono ?_
    rintro v we ⟨rfl, rfl⟩
    have y7 : ((([] : List Up).length : Int) == 0) = true := rfl
    simp -implicitDefEqProofs only [go_sem, ↓reduceIte, Nat.reduceEqDiff, Int.reduceLT, not_false_eq_true, List.map_toArray, List.map_cons, List.map_nil, Option.isSome_some, Nat.reduceLT, Int.reduceToNat, Int.reducePow, Nat.reduceAdd, Int.toNat_natCast, Bool.not_true, Bool.not_false, Nat.mul_one, decide_true, decide_false, Bool.false_eq_true, List.getElem?_cons_zero, List.getElem?_cons_succ, Int.reduceEq, Option.map_some, Option.map_none, at_add, add_zero', Nat.zero_add, Nat.add_zero, Nat.zero_mul, List.getElem?_toArray, List.length_cons, List.length_nil, allOne_nil, allOne_cons, Bool.and_true, Bool.true_and, Nat.reduceLT, Nat.reduceLeDiff, Int.reduceLE, List.append_toArray, List.cons_append, List.nil_append, List.append_nil, y7]
    exact ⟨rfl, kd⟩
end Go.Proofs.Ytdnlnaeonhbfiaa.F
