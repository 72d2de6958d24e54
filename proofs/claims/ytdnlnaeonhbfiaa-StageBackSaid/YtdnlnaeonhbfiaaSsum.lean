/- A table of uploads in memory: how many bytes it has, and what goes with its owner. Conditions: those of the table. -/
import Derived.Test.YtdnlnaeonhbfiaaSops
namespace Go.Proofs.Ytdnlnaeonhbfiaa.F
open Go.RowKit Go.Proofs.Ytdnlnaeonhbfiaa.M Go.Proofs.Ytdnlnaeonhbfiaa.V
set_option linter.unusedSimpArgs false
set_option linter.unusedVariables false
set_option maxRecDepth 20000

def Lf (R : List Row) (seen : Array Nat) : List Row := R.filter fun r => !seen.contains r.born
theorem left_rows (R : List Row) (seen : Array Nat) : leftE (R.map Row.ent) seen = (Lf R seen).map Row.ent := by
  unfold leftE Lf
  rw [List.filter_map]
  rfl
theorem push_has (seen : Array Nat) (b x : Nat) : (seen.push b).contains x = (seen.contains x || x == b) := by
  rw [Bool.eq_iff_iff]
  simp [Array.contains_iff_mem, Array.mem_push]
def lenSum (R : List Row) : Nat := (R.map fun r => r.u.b.length).sum
theorem sum_push {r : Row} {seen : Array Nat} : ∀ {R : List Row}, R.Pairwise RowNe → r ∈ R → seen.contains r.born = false → lenSum (Lf R seen) = r.u.b.length + lenSum (Lf R (seen.push r.born))
  | [], _, hr, _ => by simp at hr
  | s :: R, h, hr, hs => by
    obtain ⟨h1, h2⟩ := List.pairwise_cons.1 h
    rcases List.mem_cons.1 hr with rfl | hr
    · have : Lf R (seen.push r.born) = Lf R seen := by
        unfold Lf
        apply List.filter_congr
        intro x hx
        have := (h1 x hx).2.2.1
        rw [push_has]
        have : (x.born == r.born) = false := by rw [beq_eq_false_iff_ne]; exact fun e => this e.symm
        rw [this, Bool.or_false]
      unfold Lf lenSum at *
      have e1 : (seen.push r.born).contains r.born = true := by rw [push_has]; simp
      simp only [List.filter_cons, hs, e1, Bool.not_false, Bool.not_true, if_true, Bool.false_eq_true, if_false, List.map_cons, List.sum_cons]
      rw [this]
    · have ih := sum_push h2 hr hs
      have hne := (h1 r hr).2.2.1
      have e1 : (seen.push r.born).contains s.born = seen.contains s.born := by
        rw [push_has]
        have : (s.born == r.born) = false := by rw [beq_eq_false_iff_ne]; exact hne
        rw [this, Bool.or_false]
      unfold Lf lenSum at *
      simp only [List.filter_cons, e1]
      split
      · simp only [List.map_cons, List.sum_cons]; omega
      · exact ih
theorem lf_lt {R : List Row} {r : Row} {seen : Array Nat} (hr : r ∈ Lf R seen) : (Lf R (seen.push r.born)).length < (Lf R seen).length := by
  obtain ⟨h1, h2⟩ := List.mem_filter.1 hr
  refine M.filter_lt (x := r) (fun y hy => ?_) h1 h2 ?_
  · simp only [push_has, Bool.not_eq_true', Bool.or_eq_false_iff] at hy ⊢
    exact hy.1
  · simp [push_has]
theorem rows_born {R : List Row} (h : R.Pairwise RowNe) : ((R.map Row.ent).map (·.born)).Nodup := by
  rw [List.map_map]
  exact List.pairwise_map.2 (h.imp fun {a b} q => q.2.2.1)
theorem bytes_sum (R : List Row) : tBytes (R.map (·.u)) = lenSum R := by
  unfold tBytes lenSum
  rw [List.map_map]; rfl

section
variable {w : World} {g : Nat} {T : Tb} {Ft : Nat → Prop}
theorem bytes_calls (h : Tab w g T Ft) (hok : TbOk T) : callK Try.prog 13 #[.pointer (some (At g 0))] w fun v w' => v = .int .i64 (tBytes T.l) ∧ Keep w w' := by
  obtain ⟨m, clock, R, hR, hT, rfl⟩ := id h
  refine callK_of Try.func13 c13 r13 (by exact Nat.le_of_ble_eq_true rfl) ?_
  rw [m13]
  simp -implicitDefEqProofs only [go_sem, ↓reduceIte, Nat.reduceEqDiff, Int.reduceLT, not_false_eq_true, List.map_toArray, List.map_cons, List.map_nil, Option.isSome_some, Nat.reduceLT, Int.reduceToNat, Int.reducePow, Nat.reduceAdd, Int.toNat_natCast, Bool.not_true, Bool.not_false, Nat.mul_one, decide_true, decide_false, Bool.false_eq_true, List.getElem?_cons_zero, List.getElem?_cons_succ, Int.reduceEq, Option.map_some, Option.map_none, at_add, add_zero', Nat.zero_add, Nat.add_zero, Nat.zero_mul, List.getElem?_toArray, List.length_cons, List.length_nil, allOne_nil, allOne_cons, Bool.and_true, Bool.true_and, Nat.reduceLT, Nat.reduceLeDiff, Int.reduceLE, List.append_toArray, List.cons_append, List.nil_append, List.append_nil, hR.box.cell]
  refine rngK_of Try.underlying62 hR.map ?_
  have kA : Keep w (w.alloc (.mapIter (some m) clock #[] clock)) := Fx.alloc _ _ _
  have hi := IterB.new w m clock clock #[]
  have hR1 := hR.fx kA (fun _ _ x => x)
  have s1 := size_alloc w (.mapIter (some m) clock #[] clock)
  have hlt := fun k => hR.lt (k := k)
  generalize w.alloc (.mapIter (some m) clock #[] clock) = w1 at *
  obtain ⟨it, hit⟩ : ∃ it, it = w.heap.size := ⟨_, rfl⟩
  rw [← hit] at hi ⊢
  have hsum : tBytes T.l = lenSum R := by rw [← hT]; exact bytes_sum R
  have hle := hok.bytes
  have hnit : ∀ k, foot g m R k → ¬ only it k := fun k hk e => by have := hlt k hk; have : k = it := e; omega
  simp -implicitDefEqProofs only [go_sem, ↓reduceIte, Nat.reduceEqDiff, Int.reduceLT, not_false_eq_true, List.map_toArray, List.map_cons, List.map_nil, Option.isSome_some, Nat.reduceLT, Int.reduceToNat, Int.reducePow, Nat.reduceAdd, Int.toNat_natCast, Bool.not_true, Bool.not_false, Nat.mul_one, decide_true, decide_false, Bool.false_eq_true, List.getElem?_cons_zero, List.getElem?_cons_succ, Int.reduceEq, Option.map_some, Option.map_none, at_add, add_zero', Nat.zero_add, Nat.add_zero, Nat.zero_mul, List.getElem?_toArray, List.length_cons, List.length_nil, allOne_nil, allOne_cons, Bool.and_true, Bool.true_and, Nat.reduceLT, Nat.reduceLeDiff, Int.reduceLE, List.append_toArray, List.cons_append, List.nil_append, List.append_nil]
  refine loop_intro (fun q f w' => ∃ (seen : Array Nat) (tot : Nat), q = (Lf R seen).length ∧ f 10 = .pointer (some (At it 0)) ∧ f 3 = .int .i64 tot ∧ tot + lenSum (Lf R seen) = tBytes T.l ∧ IterB w' it m clock seen clock ∧ Fx (only it) w1 w') (Lf R #[]).length
    ⟨#[], 0, rfl, by simp -implicitDefEqProofs only [go_sem, ↓reduceIte, Nat.reduceEqDiff, Int.reduceLT, not_false_eq_true, List.map_toArray, List.map_cons, List.map_nil, Option.isSome_some, Nat.reduceLT, Int.reduceToNat, Int.reducePow, Nat.reduceAdd, Int.toNat_natCast, Bool.not_true, Bool.not_false, Nat.mul_one, decide_true, decide_false, Bool.false_eq_true, List.getElem?_cons_zero, List.getElem?_cons_succ, Int.reduceEq, Option.map_some, Option.map_none, at_add, add_zero', Nat.zero_add, Nat.add_zero, Nat.zero_mul, List.getElem?_toArray, List.length_cons, List.length_nil, allOne_nil, allOne_cons, Bool.and_true, Bool.true_and, Nat.reduceLT, Nat.reduceLeDiff, Int.reduceLE, List.append_toArray, List.cons_append, List.nil_append, List.append_nil], by simp -implicitDefEqProofs only [go_sem, ↓reduceIte, Nat.reduceEqDiff, Int.reduceLT, not_false_eq_true, List.map_toArray, List.map_cons, List.map_nil, Option.isSome_some, Nat.reduceLT, Int.reduceToNat, Int.reducePow, Nat.reduceAdd, Int.toNat_natCast, Bool.not_true, Bool.not_false, Nat.mul_one, decide_true, decide_false, Bool.false_eq_true, List.getElem?_cons_zero, List.getElem?_cons_succ, Int.reduceEq, Option.map_some, Option.map_none, at_add, add_zero', Nat.zero_add, Nat.add_zero, Nat.zero_mul, List.getElem?_toArray, List.length_cons, List.length_nil, allOne_nil, allOne_cons, Bool.and_true, Bool.true_and, Nat.reduceLT, Nat.reduceLeDiff, Int.reduceLE, List.append_toArray, List.cons_append, List.nil_append, List.append_nil]; rfl, by rw [Nat.zero_add, hsum]; congr 1; unfold Lf; exact List.filter_eq_self.2 (fun x _ => by simp), hi, Fx.refl _ _⟩ ?_
  rintro q f w2 ⟨seen, tot, rfl, g10, g3, htot, hi2, f2⟩
  have hR2 := hR1.fx f2 hnit
  simp -implicitDefEqProofs only [go_sem, ↓reduceIte, Nat.reduceEqDiff, Int.reduceLT, not_false_eq_true, List.map_toArray, List.map_cons, List.map_nil, Option.isSome_some, Nat.reduceLT, Int.reduceToNat, Int.reducePow, Nat.reduceAdd, Int.toNat_natCast, Bool.not_true, Bool.not_false, Nat.mul_one, decide_true, decide_false, Bool.false_eq_true, List.getElem?_cons_zero, List.getElem?_cons_succ, Int.reduceEq, Option.map_some, Option.map_none, at_add, add_zero', Nat.zero_add, Nat.add_zero, Nat.zero_mul, List.getElem?_toArray, List.length_cons, List.length_nil, allOne_nil, allOne_cons, Bool.and_true, Bool.true_and, Nat.reduceLT, Nat.reduceLeDiff, Int.reduceLE, List.append_toArray, List.cons_append, List.nil_append, List.append_nil, g10]
  refine nxtK_of hR2.map hi2 (fun e he => ?_) (fun hl => ?_) (fun e he w3 hw3 => ?_)
  · obtain ⟨r, hr, rfl⟩ := List.mem_map.1 he
    exact hR.born r hr
  · simp -implicitDefEqProofs only [go_sem, ↓reduceIte, Nat.reduceEqDiff, Int.reduceLT, not_false_eq_true, List.map_toArray, List.map_cons, List.map_nil, Option.isSome_some, Nat.reduceLT, Int.reduceToNat, Int.reducePow, Nat.reduceAdd, Int.toNat_natCast, Bool.not_true, Bool.not_false, Nat.mul_one, decide_true, decide_false, Bool.false_eq_true, List.getElem?_cons_zero, List.getElem?_cons_succ, Int.reduceEq, Option.map_some, Option.map_none, at_add, add_zero', Nat.zero_add, Nat.add_zero, Nat.zero_mul, List.getElem?_toArray, List.length_cons, List.length_nil, allOne_nil, allOne_cons, Bool.and_true, Bool.true_and, Nat.reduceLT, Nat.reduceLeDiff, Int.reduceLE, List.append_toArray, List.cons_append, List.nil_append, List.append_nil, g10, g3]
    rw [left_rows] at hl
    have hl' : Lf R seen = [] := List.map_eq_nil_iff.1 hl
    rw [hl'] at htot
    have e0 : lenSum [] = 0 := rfl
    rw [e0, Nat.add_zero] at htot
    rw [htot]
    exact ⟨rfl, kA.new f2 (fun k e hk => by have : k = it := e; omega)⟩
  · rw [left_rows] at he
    obtain ⟨r, hr, rfl⟩ := List.mem_map.1 he
    have hrR : r ∈ R := (List.mem_filter.1 hr).1
    have hs : seen.contains r.born = false := by simpa using (List.mem_filter.1 hr).2
    have hi3 := hi2.set hw3 (seen.push r.born)
    have f3 : Fx (only it) w2 (setIter w3 it m clock (seen.push r.born) clock) := Fx.setIter it m clock _ clock hw3
    have e1 : r.ent.born = r.born := rfl
    rw [e1]
    have hR3 := hR2.fx f3 hnit
    generalize setIter w3 it m clock (seen.push r.born) clock = w4 at *
    simp -implicitDefEqProofs only [go_sem, ↓reduceIte, Nat.reduceEqDiff, Int.reduceLT, not_false_eq_true, List.map_toArray, List.map_cons, List.map_nil, Option.isSome_some, Nat.reduceLT, Int.reduceToNat, Int.reducePow, Nat.reduceAdd, Int.toNat_natCast, Bool.not_true, Bool.not_false, Nat.mul_one, decide_true, decide_false, Bool.false_eq_true, List.getElem?_cons_zero, List.getElem?_cons_succ, Int.reduceEq, Option.map_some, Option.map_none, at_add, add_zero', Nat.zero_add, Nat.add_zero, Nat.zero_mul, List.getElem?_toArray, List.length_cons, List.length_nil, allOne_nil, allOne_cons, Bool.and_true, Bool.true_and, Nat.reduceLT, Nat.reduceLeDiff, Int.reduceLE, List.append_toArray, List.cons_append, List.nil_append, List.append_nil, g10, g3]
    refine entK_of hR3.map hi3 (rows_born hR.ne) (List.mem_map_of_mem hrR) ?_
    have hU := hR3.ups r hrR
    obtain ⟨Au, cu, hv, hlu, hmu, hru⟩ := hU.2.slice'
    have hcell := hU.1.cell 2
    rw [hv] at hcell
    have hsp := sum_push hR.ne hrR hs
    have ew : IntKind.i64.wrap ((tot : Int) + (r.u.b.length : Int)) = ((tot + r.u.b.length : Nat) : Int) := i64_nat (by omega) (by omega)
    have e2 : r.ent.val = .pointer (some (At r.k 0)) := rfl
    simp -implicitDefEqProofs only [go_sem, ↓reduceIte, Nat.reduceEqDiff, Int.reduceLT, not_false_eq_true, List.map_toArray, List.map_cons, List.map_nil, Option.isSome_some, Nat.reduceLT, Int.reduceToNat, Int.reducePow, Nat.reduceAdd, Int.toNat_natCast, Bool.not_true, Bool.not_false, Nat.mul_one, decide_true, decide_false, Bool.false_eq_true, List.getElem?_cons_zero, List.getElem?_cons_succ, Int.reduceEq, Option.map_some, Option.map_none, at_add, add_zero', Nat.zero_add, Nat.add_zero, Nat.zero_mul, List.getElem?_toArray, List.length_cons, List.length_nil, allOne_nil, allOne_cons, Bool.and_true, Bool.true_and, Nat.reduceLT, Nat.reduceLeDiff, Int.reduceLE, List.append_toArray, List.cons_append, List.nil_append, List.append_nil, g10, g3, e2, hcell, ew]
    exact ⟨_, lf_lt hr, seen.push r.born, tot + r.u.b.length, rfl, by simp -implicitDefEqProofs only [go_sem, ↓reduceIte, Nat.reduceEqDiff, Int.reduceLT, not_false_eq_true, List.map_toArray, List.map_cons, List.map_nil, Option.isSome_some, Nat.reduceLT, Int.reduceToNat, Int.reducePow, Nat.reduceAdd, Int.toNat_natCast, Bool.not_true, Bool.not_false, Nat.mul_one, decide_true, decide_false, Bool.false_eq_true, List.getElem?_cons_zero, List.getElem?_cons_succ, Int.reduceEq, Option.map_some, Option.map_none, at_add, add_zero', Nat.zero_add, Nat.add_zero, Nat.zero_mul, List.getElem?_toArray, List.length_cons, List.length_nil, allOne_nil, allOne_cons, Bool.and_true, Bool.true_and, Nat.reduceLT, Nat.reduceLeDiff, Int.reduceLE, List.append_toArray, List.cons_append, List.nil_append, List.append_nil, g10], by simp -implicitDefEqProofs only [go_sem, ↓reduceIte, Nat.reduceEqDiff, Int.reduceLT, not_false_eq_true, List.map_toArray, List.map_cons, List.map_nil, Option.isSome_some, Nat.reduceLT, Int.reduceToNat, Int.reducePow, Nat.reduceAdd, Int.toNat_natCast, Bool.not_true, Bool.not_false, Nat.mul_one, decide_true, decide_false, Bool.false_eq_true, List.getElem?_cons_zero, List.getElem?_cons_succ, Int.reduceEq, Option.map_some, Option.map_none, at_add, add_zero', Nat.zero_add, Nat.add_zero, Nat.zero_mul, List.getElem?_toArray, List.length_cons, List.length_nil, allOne_nil, allOne_cons, Bool.and_true, Bool.true_and, Nat.reduceLT, Nat.reduceLeDiff, Int.reduceLE, List.append_toArray, List.cons_append, List.nil_append, List.append_nil], by omega, hi3, f2.tr f3⟩

theorem erase_filter {r : Row} : ∀ {R : List Row} {i : Nat}, R.Pairwise RowNe → R[i]? = some r → R.eraseIdx i = R.filter fun s => !(s.born == r.born)
  | [], _, _, h => by simp at h
  | s :: R, 0, h, hi => by
    cases hi
    obtain ⟨h1, _⟩ := List.pairwise_cons.1 h
    simp only [List.eraseIdx_cons_zero, List.filter_cons, beq_self_eq_true, Bool.not_true, Bool.false_eq_true, if_false]
    exact (List.filter_eq_self.2 fun x hx => by simpa using fun e => (h1 x hx).2.2.1 e.symm).symm
  | s :: R, i + 1, h, hi => by
    obtain ⟨h1, h2⟩ := List.pairwise_cons.1 h
    have hi : R[i]? = some r := by simpa using hi
    have hne := (h1 r (List.mem_of_getElem? hi)).2.2.1
    simp only [List.eraseIdx_cons_succ, List.filter_cons]
    rw [if_pos (by simpa using hne), erase_filter h2 hi]

/-- What is left of the rows where these have been seen. -/
def Gone (owner : Int) (R : List Row) (seen : Array Nat) : List Row := R.filter fun r => !(seen.contains r.born && r.u.owner == owner)
theorem isOwner_calls {bx : Nat} {r : Row} {owner n : Int} (hU : UpB w r) (hb : w.cell? (At bx 0) = some (.int .u64 owner)) : callK Try.prog 29 #[.int .u32 n, .pointer (some (At r.k 0)), .pointer (some (At bx 0))] w fun v w' => v = .bool (r.u.owner == owner) ∧ Keep w w' := by
  refine callK_of Try.func29 c29 r29 (by exact Nat.le_of_ble_eq_true rfl) ?_
  rw [m29]
  have h0 := hU.1.cell 0
  simp -implicitDefEqProofs only [go_sem, ↓reduceIte, Nat.reduceEqDiff, Int.reduceLT, not_false_eq_true, List.map_toArray, List.map_cons, List.map_nil, Option.isSome_some, Nat.reduceLT, Int.reduceToNat, Int.reducePow, Nat.reduceAdd, Int.toNat_natCast, Bool.not_true, Bool.not_false, Nat.mul_one, decide_true, decide_false, Bool.false_eq_true, List.getElem?_cons_zero, List.getElem?_cons_succ, Int.reduceEq, Option.map_some, Option.map_none, at_add, add_zero', Nat.zero_add, Nat.add_zero, Nat.zero_mul, List.getElem?_toArray, List.length_cons, List.length_nil, allOne_nil, allOne_cons, Bool.and_true, Bool.true_and, Nat.reduceLT, Nat.reduceLeDiff, Int.reduceLE, List.append_toArray, List.cons_append, List.nil_append, List.append_nil]
  have hd : w.drew.cell? (At r.k 0) = some (.int .u64 r.u.owner) := h0
  have hd2 : w.drew.cell? (At bx 0) = some (.int .u64 owner) := hb
  refine seg_intro (fun w' => w'.cell? (At r.k 0) = some (.int .u64 r.u.owner)) hd ?_
  simp -implicitDefEqProofs only [go_sem, ↓reduceIte, Nat.reduceEqDiff, Int.reduceLT, not_false_eq_true, List.map_toArray, List.map_cons, List.map_nil, Option.isSome_some, Nat.reduceLT, Int.reduceToNat, Int.reducePow, Nat.reduceAdd, Int.toNat_natCast, Bool.not_true, Bool.not_false, Nat.mul_one, decide_true, decide_false, Bool.false_eq_true, List.getElem?_cons_zero, List.getElem?_cons_succ, Int.reduceEq, Option.map_some, Option.map_none, at_add, add_zero', Nat.zero_add, Nat.add_zero, Nat.zero_mul, List.getElem?_toArray, List.length_cons, List.length_nil, allOne_nil, allOne_cons, Bool.and_true, Bool.true_and, Nat.reduceLT, Nat.reduceLeDiff, Int.reduceLE, List.append_toArray, List.cons_append, List.nil_append, List.append_nil]
  refine hld_intro (.int .u64 r.u.owner) hd (fun w' hw' => by simp -implicitDefEqProofs only [go_sem, ↓reduceIte, Nat.reduceEqDiff, Int.reduceLT, not_false_eq_true, List.map_toArray, List.map_cons, List.map_nil, Option.isSome_some, Nat.reduceLT, Int.reduceToNat, Int.reducePow, Nat.reduceAdd, Int.toNat_natCast, Bool.not_true, Bool.not_false, Nat.mul_one, decide_true, decide_false, Bool.false_eq_true, List.getElem?_cons_zero, List.getElem?_cons_succ, Int.reduceEq, Option.map_some, Option.map_none, at_add, add_zero', Nat.zero_add, Nat.add_zero, Nat.zero_mul, List.getElem?_toArray, List.length_cons, List.length_nil, allOne_nil, allOne_cons, Bool.and_true, Bool.true_and, Nat.reduceLT, Nat.reduceLeDiff, Int.reduceLE, List.append_toArray, List.cons_append, List.nil_append, List.append_nil, hw']; exact ⟨trivial, trivial⟩) ?_
  simp -implicitDefEqProofs only [go_sem, ↓reduceIte, Nat.reduceEqDiff, Int.reduceLT, not_false_eq_true, List.map_toArray, List.map_cons, List.map_nil, Option.isSome_some, Nat.reduceLT, Int.reduceToNat, Int.reducePow, Nat.reduceAdd, Int.toNat_natCast, Bool.not_true, Bool.not_false, Nat.mul_one, decide_true, decide_false, Bool.false_eq_true, List.getElem?_cons_zero, List.getElem?_cons_succ, Int.reduceEq, Option.map_some, Option.map_none, at_add, add_zero', Nat.zero_add, Nat.add_zero, Nat.zero_mul, List.getElem?_toArray, List.length_cons, List.length_nil, allOne_nil, allOne_cons, Bool.and_true, Bool.true_and, Nat.reduceLT, Nat.reduceLeDiff, Int.reduceLE, List.append_toArray, List.cons_append, List.nil_append, List.append_nil, hd2]
  refine goE_intro hd ?_
  simp -implicitDefEqProofs only [go_sem, ↓reduceIte, Nat.reduceEqDiff, Int.reduceLT, not_false_eq_true, List.map_toArray, List.map_cons, List.map_nil, Option.isSome_some, Nat.reduceLT, Int.reduceToNat, Int.reducePow, Nat.reduceAdd, Int.toNat_natCast, Bool.not_true, Bool.not_false, Nat.mul_one, decide_true, decide_false, Bool.false_eq_true, List.getElem?_cons_zero, List.getElem?_cons_succ, Int.reduceEq, Option.map_some, Option.map_none, at_add, add_zero', Nat.zero_add, Nat.add_zero, Nat.zero_mul, List.getElem?_toArray, List.length_cons, List.length_nil, allOne_nil, allOne_cons, Bool.and_true, Bool.true_and, Nat.reduceLT, Nat.reduceLeDiff, Int.reduceLE, List.append_toArray, List.cons_append, List.nil_append, List.append_nil]
  exact ⟨trivial, Fx.drew _ _⟩
theorem delete_calls {m clock : Nat} {last : Int} {R : List Row} (hR : TabR w g m clock last R) {bx : Nat} {owner : Int} (hb : w.cell? (At bx 0) = some (.int .u64 owner)) (hbx : ¬ foot g m R bx) :
    callK Try.prog 28 #[.map (some m), .func (.func 29) #[] #[.pointer (some (At bx 0))]] w fun v w' => v = .tuple #[] ∧ MapB w' m .u32 ((R.filter fun r => !(r.u.owner == owner)).map Row.ent) clock ∧ Fx (fun k => k = m) w w' := by
  refine callK_of Try.func28 c28 r28 (by exact Nat.le_of_ble_eq_true rfl) ?_
  rw [m28]
  simp -implicitDefEqProofs only [go_sem, ↓reduceIte, Nat.reduceEqDiff, Int.reduceLT, not_false_eq_true, List.map_toArray, List.map_cons, List.map_nil, Option.isSome_some, Nat.reduceLT, Int.reduceToNat, Int.reducePow, Nat.reduceAdd, Int.toNat_natCast, Bool.not_true, Bool.not_false, Nat.mul_one, decide_true, decide_false, Bool.false_eq_true, List.getElem?_cons_zero, List.getElem?_cons_succ, Int.reduceEq, Option.map_some, Option.map_none, at_add, add_zero', Nat.zero_add, Nat.add_zero, Nat.zero_mul, List.getElem?_toArray, List.length_cons, List.length_nil, allOne_nil, allOne_cons, Bool.and_true, Bool.true_and, Nat.reduceLT, Nat.reduceLeDiff, Int.reduceLE, List.append_toArray, List.cons_append, List.nil_append, List.append_nil]
  refine rngK_of Try.underlying62 hR.map ?_
  have kA : Keep w (w.alloc (.mapIter (some m) clock #[] clock)) := Fx.alloc _ _ _
  have hi := IterB.new w m clock clock #[]
  have hR1 := hR.fx kA (fun _ _ x => x)
  have s1 := size_alloc w (.mapIter (some m) clock #[] clock)
  have hlt := fun k => hR.lt (k := k)
  have hbl : bx < w.heap.size := cell_lt hb
  have hb1 : (w.alloc (.mapIter (some m) clock #[] clock)).cell? (At bx 0) = some (.int .u64 owner) := by
    rw [← hb]
    exact cell_ext (kA.block bx hbl (fun x => x))
  generalize w.alloc (.mapIter (some m) clock #[] clock) = w1 at *
  obtain ⟨it, hit⟩ : ∃ it, it = w.heap.size := ⟨_, rfl⟩
  rw [← hit] at hi ⊢
  have hml := hR.map.lt
  simp -implicitDefEqProofs only [go_sem, ↓reduceIte, Nat.reduceEqDiff, Int.reduceLT, not_false_eq_true, List.map_toArray, List.map_cons, List.map_nil, Option.isSome_some, Nat.reduceLT, Int.reduceToNat, Int.reducePow, Nat.reduceAdd, Int.toNat_natCast, Bool.not_true, Bool.not_false, Nat.mul_one, decide_true, decide_false, Bool.false_eq_true, List.getElem?_cons_zero, List.getElem?_cons_succ, Int.reduceEq, Option.map_some, Option.map_none, at_add, add_zero', Nat.zero_add, Nat.add_zero, Nat.zero_mul, List.getElem?_toArray, List.length_cons, List.length_nil, allOne_nil, allOne_cons, Bool.and_true, Bool.true_and, Nat.reduceLT, Nat.reduceLeDiff, Int.reduceLE, List.append_toArray, List.cons_append, List.nil_append, List.append_nil]
  have g0 : Gone owner R #[] = R := by
    unfold Gone
    exact List.filter_eq_self.2 (fun x _ => by simp)
  refine loop_intro (fun q f w' => ∃ (seen : Array Nat), q = (Lf R seen).length ∧ f 0 = .map (some m) ∧ f 1 = .func (.func 29) #[] #[.pointer (some (At bx 0))] ∧ f 7 = .pointer (some (At it 0)) ∧ MapB w' m .u32 ((Gone owner R seen).map Row.ent) clock ∧ IterB w' it m clock seen clock ∧ Fx (fun k => k = it ∨ k = m) w1 w') (Lf R #[]).length
    ⟨#[], rfl, by simp -implicitDefEqProofs only [go_sem, ↓reduceIte, Nat.reduceEqDiff, Int.reduceLT, not_false_eq_true, List.map_toArray, List.map_cons, List.map_nil, Option.isSome_some, Nat.reduceLT, Int.reduceToNat, Int.reducePow, Nat.reduceAdd, Int.toNat_natCast, Bool.not_true, Bool.not_false, Nat.mul_one, decide_true, decide_false, Bool.false_eq_true, List.getElem?_cons_zero, List.getElem?_cons_succ, Int.reduceEq, Option.map_some, Option.map_none, at_add, add_zero', Nat.zero_add, Nat.add_zero, Nat.zero_mul, List.getElem?_toArray, List.length_cons, List.length_nil, allOne_nil, allOne_cons, Bool.and_true, Bool.true_and, Nat.reduceLT, Nat.reduceLeDiff, Int.reduceLE, List.append_toArray, List.cons_append, List.nil_append, List.append_nil], by simp -implicitDefEqProofs only [go_sem, ↓reduceIte, Nat.reduceEqDiff, Int.reduceLT, not_false_eq_true, List.map_toArray, List.map_cons, List.map_nil, Option.isSome_some, Nat.reduceLT, Int.reduceToNat, Int.reducePow, Nat.reduceAdd, Int.toNat_natCast, Bool.not_true, Bool.not_false, Nat.mul_one, decide_true, decide_false, Bool.false_eq_true, List.getElem?_cons_zero, List.getElem?_cons_succ, Int.reduceEq, Option.map_some, Option.map_none, at_add, add_zero', Nat.zero_add, Nat.add_zero, Nat.zero_mul, List.getElem?_toArray, List.length_cons, List.length_nil, allOne_nil, allOne_cons, Bool.and_true, Bool.true_and, Nat.reduceLT, Nat.reduceLeDiff, Int.reduceLE, List.append_toArray, List.cons_append, List.nil_append, List.append_nil], by simp -implicitDefEqProofs only [go_sem, ↓reduceIte, Nat.reduceEqDiff, Int.reduceLT, not_false_eq_true, List.map_toArray, List.map_cons, List.map_nil, Option.isSome_some, Nat.reduceLT, Int.reduceToNat, Int.reducePow, Nat.reduceAdd, Int.toNat_natCast, Bool.not_true, Bool.not_false, Nat.mul_one, decide_true, decide_false, Bool.false_eq_true, List.getElem?_cons_zero, List.getElem?_cons_succ, Int.reduceEq, Option.map_some, Option.map_none, at_add, add_zero', Nat.zero_add, Nat.add_zero, Nat.zero_mul, List.getElem?_toArray, List.length_cons, List.length_nil, allOne_nil, allOne_cons, Bool.and_true, Bool.true_and, Nat.reduceLT, Nat.reduceLeDiff, Int.reduceLE, List.append_toArray, List.cons_append, List.nil_append, List.append_nil], by rw [g0]; exact hR1.map, hi, Fx.refl _ _⟩ ?_
  rintro q f w2 ⟨seen, rfl, q0, q1, q7, hm2, hi2, f2⟩
  simp -implicitDefEqProofs only [go_sem, ↓reduceIte, Nat.reduceEqDiff, Int.reduceLT, not_false_eq_true, List.map_toArray, List.map_cons, List.map_nil, Option.isSome_some, Nat.reduceLT, Int.reduceToNat, Int.reducePow, Nat.reduceAdd, Int.toNat_natCast, Bool.not_true, Bool.not_false, Nat.mul_one, decide_true, decide_false, Bool.false_eq_true, List.getElem?_cons_zero, List.getElem?_cons_succ, Int.reduceEq, Option.map_some, Option.map_none, at_add, add_zero', Nat.zero_add, Nat.add_zero, Nat.zero_mul, List.getElem?_toArray, List.length_cons, List.length_nil, allOne_nil, allOne_cons, Bool.and_true, Bool.true_and, Nat.reduceLT, Nat.reduceLeDiff, Int.reduceLE, List.append_toArray, List.cons_append, List.nil_append, List.append_nil, q0, q1, q7]
  refine nxtK_of hm2 hi2 (fun e he => ?_) (fun hl => ?_) (fun e he w3 hw3 => ?_)
  · obtain ⟨r, hr, rfl⟩ := List.mem_map.1 he
    exact hR.born r (List.mem_filter.1 hr).1
  · simp -implicitDefEqProofs only [go_sem, ↓reduceIte, Nat.reduceEqDiff, Int.reduceLT, not_false_eq_true, List.map_toArray, List.map_cons, List.map_nil, Option.isSome_some, Nat.reduceLT, Int.reduceToNat, Int.reducePow, Nat.reduceAdd, Int.toNat_natCast, Bool.not_true, Bool.not_false, Nat.mul_one, decide_true, decide_false, Bool.false_eq_true, List.getElem?_cons_zero, List.getElem?_cons_succ, Int.reduceEq, Option.map_some, Option.map_none, at_add, add_zero', Nat.zero_add, Nat.add_zero, Nat.zero_mul, List.getElem?_toArray, List.length_cons, List.length_nil, allOne_nil, allOne_cons, Bool.and_true, Bool.true_and, Nat.reduceLT, Nat.reduceLeDiff, Int.reduceLE, List.append_toArray, List.cons_append, List.nil_append, List.append_nil, q0, q1, q7]
    have hfin : Gone owner R seen = R.filter fun r => !(r.u.owner == owner) := by
      unfold Gone
      apply List.filter_congr
      intro x hx
      cases ho : (x.u.owner == owner) with
      | false => simp
      | true =>
        have : seen.contains x.born = true := by
          cases hc : seen.contains x.born with
          | true => rfl
          | false =>
            rw [left_rows] at hl
            have hl' : Lf (Gone owner R seen) seen = [] := List.map_eq_nil_iff.1 hl
            have hmem : x ∈ Lf (Gone owner R seen) seen := List.mem_filter.2 ⟨List.mem_filter.2 ⟨hx, by rw [hc]; rfl⟩, by rw [hc]; rfl⟩
            rw [hl'] at hmem
            simp at hmem
        rw [this]
        rfl
    rw [hfin] at hm2
    exact ⟨trivial, hm2, (kA.fx _).new f2 (fun k e hk => by rcases e with e | e; omega; exact e)⟩
  · rw [left_rows] at he
    obtain ⟨r, hr, rfl⟩ := List.mem_map.1 he
    have hrG : r ∈ Gone owner R seen := (List.mem_filter.1 hr).1
    have hrR : r ∈ R := (List.mem_filter.1 hrG).1
    have hs : seen.contains r.born = false := by simpa using (List.mem_filter.1 hr).2
    have hpG : (Gone owner R seen).Pairwise RowNe := hR.ne.sublist List.filter_sublist
    have hi3 := hi2.set hw3 (seen.push r.born)
    have f3 : Fx (only it) w2 (setIter w3 it m clock (seen.push r.born) clock) := Fx.setIter it m clock _ clock hw3
    have e1 : r.ent.born = r.born := rfl
    rw [e1]
    have hm4 := hm2.fx f3 (fun e => by have : m = it := e; omega)
    have f4 : Fx (fun k => k = it ∨ k = m) w1 (setIter w3 it m clock (seen.push r.born) clock) := f2.tr (f3.weaken fun k _ e => .inl e)
    generalize setIter w3 it m clock (seen.push r.born) clock = w4 at *
    have hU1 := hR1.ups r hrR
    have hU4 : UpB w4 r := hU1.fx f4 (fun e => by
      have h1 := (hR.ups r hrR).1.lt
      rcases e with e | e
      · omega
      · exact hR.map.ne (hR.ups r hrR).1 e.symm) (fun k hk e => by
      have h1 := (hR.ups r hrR).2.lt hk.symm
      rcases e with e | e
      · omega
      · exact (hR.ups r hrR).2.ne_map hR.map (e ▸ hk))
    have hb4 : w4.cell? (At bx 0) = some (.int .u64 owner) := by
      rw [← hb1]
      exact cell_ext (f4.block bx (by omega) (fun e => by
        rcases e with e | e
        · omega
        · exact hbx (.inr (.inl e))))
    simp -implicitDefEqProofs only [go_sem, ↓reduceIte, Nat.reduceEqDiff, Int.reduceLT, not_false_eq_true, List.map_toArray, List.map_cons, List.map_nil, Option.isSome_some, Nat.reduceLT, Int.reduceToNat, Int.reducePow, Nat.reduceAdd, Int.toNat_natCast, Bool.not_true, Bool.not_false, Nat.mul_one, decide_true, decide_false, Bool.false_eq_true, List.getElem?_cons_zero, List.getElem?_cons_succ, Int.reduceEq, Option.map_some, Option.map_none, at_add, add_zero', Nat.zero_add, Nat.add_zero, Nat.zero_mul, List.getElem?_toArray, List.length_cons, List.length_nil, allOne_nil, allOne_cons, Bool.and_true, Bool.true_and, Nat.reduceLT, Nat.reduceLeDiff, Int.reduceLE, List.append_toArray, List.cons_append, List.nil_append, List.append_nil, q0, q1, q7]
    refine entK_of hm4 hi3 (rows_born hpG) (List.mem_map_of_mem hrG) ?_
    have e2 : r.ent.val = .pointer (some (At r.k 0)) := rfl
    have e3 : r.ent.key = r.u.n := rfl
    simp -implicitDefEqProofs only [go_sem, ↓reduceIte, Nat.reduceEqDiff, Int.reduceLT, not_false_eq_true, List.map_toArray, List.map_cons, List.map_nil, Option.isSome_some, Nat.reduceLT, Int.reduceToNat, Int.reducePow, Nat.reduceAdd, Int.toNat_natCast, Bool.not_true, Bool.not_false, Nat.mul_one, decide_true, decide_false, Bool.false_eq_true, List.getElem?_cons_zero, List.getElem?_cons_succ, Int.reduceEq, Option.map_some, Option.map_none, at_add, add_zero', Nat.zero_add, Nat.add_zero, Nat.zero_mul, List.getElem?_toArray, List.length_cons, List.length_nil, allOne_nil, allOne_cons, Bool.and_true, Bool.true_and, Nat.reduceLT, Nat.reduceLeDiff, Int.reduceLE, List.append_toArray, List.cons_append, List.nil_append, List.append_nil, q0, q1, q7, e2, e3]
    refine (isOwner_calls hU4 hb4).mono ?_
    rintro v w5 ⟨rfl, k5⟩
    have hm5 := hm4.fx k5 (fun x => x)
    have hi5 := hi3.fx k5 (fun x => x)
    have hlen : (Lf R (seen.push r.born)).length < (Lf R seen).length := lf_lt (List.mem_filter.2 ⟨hrR, by rw [hs]; rfl⟩)
    have uniq : ∀ x ∈ R, x.born = r.born → x = r := by
      intro x hx hxb
      obtain ⟨i, hi⟩ := List.mem_iff_getElem?.1 hx
      obtain ⟨j, hj⟩ := List.mem_iff_getElem?.1 hrR
      by_cases e : i = j
      · subst e; rw [hi] at hj; cases hj; rfl
      · exact absurd hxb (rows_ne hR.ne hi hj e).2.2.1
    cases ho : (r.u.owner == owner) with
    | true =>
      simp -implicitDefEqProofs only [go_sem, ↓reduceIte, Nat.reduceEqDiff, Int.reduceLT, not_false_eq_true, List.map_toArray, List.map_cons, List.map_nil, Option.isSome_some, Nat.reduceLT, Int.reduceToNat, Int.reducePow, Nat.reduceAdd, Int.toNat_natCast, Bool.not_true, Bool.not_false, Nat.mul_one, decide_true, decide_false, Bool.false_eq_true, List.getElem?_cons_zero, List.getElem?_cons_succ, Int.reduceEq, Option.map_some, Option.map_none, at_add, add_zero', Nat.zero_add, Nat.add_zero, Nat.zero_mul, List.getElem?_toArray, List.length_cons, List.length_nil, allOne_nil, allOne_cons, Bool.and_true, Bool.true_and, Nat.reduceLT, Nat.reduceLeDiff, Int.reduceLE, List.append_toArray, List.cons_append, List.nil_append, List.append_nil, q0, q1, q7]
      refine delK_of Try.underlying62 Try.underlying26 hm5 r.u.n ?_
      have hdel : del r.u.n ((Gone owner R seen).map Row.ent) = (Gone owner R (seen.push r.born)).map Row.ent := by
        rcases fnd_rows (owner := owner) (n := r.u.n) (i0 := 0) hpG with ⟨_, _, c⟩ | ⟨i, s, a, b, c, _⟩
        · exact absurd rfl (c r hrG)
        · rw [Nat.zero_add] at c
          rw [erase_ents c]
          obtain ⟨j, hj⟩ := List.mem_iff_getElem?.1 hrG
          have hsr : s = r := by
            by_cases e : i = j
            · subst e; rw [a] at hj; cases hj; rfl
            · exact absurd b (rows_ne hpG a hj e).1
          subst hsr
          rw [erase_filter hpG a]
          unfold Gone
          rw [List.filter_filter]
          congr 1
          apply List.filter_congr
          intro x hx
          rw [push_has]
          cases hxb : (x.born == s.born) with
          | false => simp
          | true =>
            have := uniq x hx (by simpa using hxb)
            subst this
            simp [ho]
      rw [hdel]
      have hm6 := hm5.set ((Gone owner R (seen.push r.born)).map Row.ent) clock
      have f6 : Fx (fun k => k = m) w5 (setMap w5 m .u32 ((Gone owner R (seen.push r.born)).map Row.ent) clock) := Fx.setMap _ _
      have hi6 := hi5.fx f6 (fun e => by have : it = m := e; omega)
      generalize setMap w5 m .u32 ((Gone owner R (seen.push r.born)).map Row.ent) clock = w6 at *
      simp -implicitDefEqProofs only [go_sem, ↓reduceIte, Nat.reduceEqDiff, Int.reduceLT, not_false_eq_true, List.map_toArray, List.map_cons, List.map_nil, Option.isSome_some, Nat.reduceLT, Int.reduceToNat, Int.reducePow, Nat.reduceAdd, Int.toNat_natCast, Bool.not_true, Bool.not_false, Nat.mul_one, decide_true, decide_false, Bool.false_eq_true, List.getElem?_cons_zero, List.getElem?_cons_succ, Int.reduceEq, Option.map_some, Option.map_none, at_add, add_zero', Nat.zero_add, Nat.add_zero, Nat.zero_mul, List.getElem?_toArray, List.length_cons, List.length_nil, allOne_nil, allOne_cons, Bool.and_true, Bool.true_and, Nat.reduceLT, Nat.reduceLeDiff, Int.reduceLE, List.append_toArray, List.cons_append, List.nil_append, List.append_nil, q0, q1, q7]
      exact ⟨_, hlen, seen.push r.born, rfl, by simp -implicitDefEqProofs only [go_sem, ↓reduceIte, Nat.reduceEqDiff, Int.reduceLT, not_false_eq_true, List.map_toArray, List.map_cons, List.map_nil, Option.isSome_some, Nat.reduceLT, Int.reduceToNat, Int.reducePow, Nat.reduceAdd, Int.toNat_natCast, Bool.not_true, Bool.not_false, Nat.mul_one, decide_true, decide_false, Bool.false_eq_true, List.getElem?_cons_zero, List.getElem?_cons_succ, Int.reduceEq, Option.map_some, Option.map_none, at_add, add_zero', Nat.zero_add, Nat.add_zero, Nat.zero_mul, List.getElem?_toArray, List.length_cons, List.length_nil, allOne_nil, allOne_cons, Bool.and_true, Bool.true_and, Nat.reduceLT, Nat.reduceLeDiff, Int.reduceLE, List.append_toArray, List.cons_append, List.nil_append, List.append_nil, q0], by simp -implicitDefEqProofs only [go_sem, ↓reduceIte, Nat.reduceEqDiff, Int.reduceLT, not_false_eq_true, List.map_toArray, List.map_cons, List.map_nil, Option.isSome_some, Nat.reduceLT, Int.reduceToNat, Int.reducePow, Nat.reduceAdd, Int.toNat_natCast, Bool.not_true, Bool.not_false, Nat.mul_one, decide_true, decide_false, Bool.false_eq_true, List.getElem?_cons_zero, List.getElem?_cons_succ, Int.reduceEq, Option.map_some, Option.map_none, at_add, add_zero', Nat.zero_add, Nat.add_zero, Nat.zero_mul, List.getElem?_toArray, List.length_cons, List.length_nil, allOne_nil, allOne_cons, Bool.and_true, Bool.true_and, Nat.reduceLT, Nat.reduceLeDiff, Int.reduceLE, List.append_toArray, List.cons_append, List.nil_append, List.append_nil, q1], by simp -implicitDefEqProofs only [go_sem, ↓reduceIte, Nat.reduceEqDiff, Int.reduceLT, not_false_eq_true, List.map_toArray, List.map_cons, List.map_nil, Option.isSome_some, Nat.reduceLT, Int.reduceToNat, Int.reducePow, Nat.reduceAdd, Int.toNat_natCast, Bool.not_true, Bool.not_false, Nat.mul_one, decide_true, decide_false, Bool.false_eq_true, List.getElem?_cons_zero, List.getElem?_cons_succ, Int.reduceEq, Option.map_some, Option.map_none, at_add, add_zero', Nat.zero_add, Nat.add_zero, Nat.zero_mul, List.getElem?_toArray, List.length_cons, List.length_nil, allOne_nil, allOne_cons, Bool.and_true, Bool.true_and, Nat.reduceLT, Nat.reduceLeDiff, Int.reduceLE, List.append_toArray, List.cons_append, List.nil_append, List.append_nil, q7], hm6, hi6, (f4.keep k5).tr (f6.weaken fun k _ e => .inr e)⟩
    | false =>
      simp -implicitDefEqProofs only [go_sem, ↓reduceIte, Nat.reduceEqDiff, Int.reduceLT, not_false_eq_true, List.map_toArray, List.map_cons, List.map_nil, Option.isSome_some, Nat.reduceLT, Int.reduceToNat, Int.reducePow, Nat.reduceAdd, Int.toNat_natCast, Bool.not_true, Bool.not_false, Nat.mul_one, decide_true, decide_false, Bool.false_eq_true, List.getElem?_cons_zero, List.getElem?_cons_succ, Int.reduceEq, Option.map_some, Option.map_none, at_add, add_zero', Nat.zero_add, Nat.add_zero, Nat.zero_mul, List.getElem?_toArray, List.length_cons, List.length_nil, allOne_nil, allOne_cons, Bool.and_true, Bool.true_and, Nat.reduceLT, Nat.reduceLeDiff, Int.reduceLE, List.append_toArray, List.cons_append, List.nil_append, List.append_nil, q0, q1, q7]
      refine ⟨_, hlen, seen.push r.born, rfl, by simp -implicitDefEqProofs only [go_sem, ↓reduceIte, Nat.reduceEqDiff, Int.reduceLT, not_false_eq_true, List.map_toArray, List.map_cons, List.map_nil, Option.isSome_some, Nat.reduceLT, Int.reduceToNat, Int.reducePow, Nat.reduceAdd, Int.toNat_natCast, Bool.not_true, Bool.not_false, Nat.mul_one, decide_true, decide_false, Bool.false_eq_true, List.getElem?_cons_zero, List.getElem?_cons_succ, Int.reduceEq, Option.map_some, Option.map_none, at_add, add_zero', Nat.zero_add, Nat.add_zero, Nat.zero_mul, List.getElem?_toArray, List.length_cons, List.length_nil, allOne_nil, allOne_cons, Bool.and_true, Bool.true_and, Nat.reduceLT, Nat.reduceLeDiff, Int.reduceLE, List.append_toArray, List.cons_append, List.nil_append, List.append_nil, q0], by simp -implicitDefEqProofs only [go_sem, ↓reduceIte, Nat.reduceEqDiff, Int.reduceLT, not_false_eq_true, List.map_toArray, List.map_cons, List.map_nil, Option.isSome_some, Nat.reduceLT, Int.reduceToNat, Int.reducePow, Nat.reduceAdd, Int.toNat_natCast, Bool.not_true, Bool.not_false, Nat.mul_one, decide_true, decide_false, Bool.false_eq_true, List.getElem?_cons_zero, List.getElem?_cons_succ, Int.reduceEq, Option.map_some, Option.map_none, at_add, add_zero', Nat.zero_add, Nat.add_zero, Nat.zero_mul, List.getElem?_toArray, List.length_cons, List.length_nil, allOne_nil, allOne_cons, Bool.and_true, Bool.true_and, Nat.reduceLT, Nat.reduceLeDiff, Int.reduceLE, List.append_toArray, List.cons_append, List.nil_append, List.append_nil, q1], by simp -implicitDefEqProofs only [go_sem, ↓reduceIte, Nat.reduceEqDiff, Int.reduceLT, not_false_eq_true, List.map_toArray, List.map_cons, List.map_nil, Option.isSome_some, Nat.reduceLT, Int.reduceToNat, Int.reducePow, Nat.reduceAdd, Int.toNat_natCast, Bool.not_true, Bool.not_false, Nat.mul_one, decide_true, decide_false, Bool.false_eq_true, List.getElem?_cons_zero, List.getElem?_cons_succ, Int.reduceEq, Option.map_some, Option.map_none, at_add, add_zero', Nat.zero_add, Nat.add_zero, Nat.zero_mul, List.getElem?_toArray, List.length_cons, List.length_nil, allOne_nil, allOne_cons, Bool.and_true, Bool.true_and, Nat.reduceLT, Nat.reduceLeDiff, Int.reduceLE, List.append_toArray, List.cons_append, List.nil_append, List.append_nil, q7], ?_, hi5, f4.keep k5⟩
      have : Gone owner R (seen.push r.born) = Gone owner R seen := by
        unfold Gone
        apply List.filter_congr
        intro x hx
        rw [push_has]
        cases hxb : (x.born == r.born) with
        | false => simp
        | true =>
          have := uniq x hx (by simpa using hxb)
          subst this
          simp [ho]
      rw [this]
      exact hm5
theorem leave_calls (h : Tab w g T Ft) (hok : TbOk T) (owner : Int) :
    callK Try.prog 15 #[.pointer (some (At g 0)), .int .u64 owner] w fun v w' => v = .int .i64 (tLeave T owner).1 ∧ TabStep w w' g (tLeave T owner).2 Ft := by
  obtain ⟨m, clock, R, hR, hT, rfl⟩ := id h
  refine callK_of Try.func15 c15 r15 (by exact Nat.le_of_ble_eq_true rfl) ?_
  rw [m15]
  simp -implicitDefEqProofs only [go_sem, ↓reduceIte, Nat.reduceEqDiff, Int.reduceLT, not_false_eq_true, List.map_toArray, List.map_cons, List.map_nil, Option.isSome_some, Nat.reduceLT, Int.reduceToNat, Int.reducePow, Nat.reduceAdd, Int.toNat_natCast, Bool.not_true, Bool.not_false, Nat.mul_one, decide_true, decide_false, Bool.false_eq_true, List.getElem?_cons_zero, List.getElem?_cons_succ, Int.reduceEq, Option.map_some, Option.map_none, at_add, add_zero', Nat.zero_add, Nat.add_zero, Nat.zero_mul, List.getElem?_toArray, List.length_cons, List.length_nil, allOne_nil, allOne_cons, Bool.and_true, Bool.true_and, Nat.reduceLT, Nat.reduceLeDiff, Int.reduceLE, List.append_toArray, List.cons_append, List.nil_append, List.append_nil]
  have kA : Keep w (w.alloc (.cells #[.int .u64 owner] 33)) := Fx.alloc _ _ _
  have hb : Blk _ _ _ _ := Blk.new w 33 #[.int .u64 owner]
  have hR1 := hR.fx kA (fun _ _ x => x)
  have hlt := fun k => hR.lt (k := k)
  generalize w.alloc (.cells #[.int .u64 owner] 33) = w1 at *
  simp -implicitDefEqProofs only [go_sem, ↓reduceIte, Nat.reduceEqDiff, Int.reduceLT, not_false_eq_true, List.map_toArray, List.map_cons, List.map_nil, Option.isSome_some, Nat.reduceLT, Int.reduceToNat, Int.reducePow, Nat.reduceAdd, Int.toNat_natCast, Bool.not_true, Bool.not_false, Nat.mul_one, decide_true, decide_false, Bool.false_eq_true, List.getElem?_cons_zero, List.getElem?_cons_succ, Int.reduceEq, Option.map_some, Option.map_none, at_add, add_zero', Nat.zero_add, Nat.add_zero, Nat.zero_mul, List.getElem?_toArray, List.length_cons, List.length_nil, allOne_nil, allOne_cons, Bool.and_true, Bool.true_and, Nat.reduceLT, Nat.reduceLeDiff, Int.reduceLE, List.append_toArray, List.cons_append, List.nil_append, List.append_nil, hR1.box.cell]
  refine lenMK_of Try.underlying62 hR1.map ?_
  simp -implicitDefEqProofs only [go_sem, ↓reduceIte, Nat.reduceEqDiff, Int.reduceLT, not_false_eq_true, List.map_toArray, List.map_cons, List.map_nil, Option.isSome_some, Nat.reduceLT, Int.reduceToNat, Int.reducePow, Nat.reduceAdd, Int.toNat_natCast, Bool.not_true, Bool.not_false, Nat.mul_one, decide_true, decide_false, Bool.false_eq_true, List.getElem?_cons_zero, List.getElem?_cons_succ, Int.reduceEq, Option.map_some, Option.map_none, at_add, add_zero', Nat.zero_add, Nat.add_zero, Nat.zero_mul, List.getElem?_toArray, List.length_cons, List.length_nil, allOne_nil, allOne_cons, Bool.and_true, Bool.true_and, Nat.reduceLT, Nat.reduceLeDiff, Int.reduceLE, List.append_toArray, List.cons_append, List.nil_append, List.append_nil, hR1.box.cell]
  refine (delete_calls hR1 (bx := w.heap.size) (owner := owner) (by rw [hb.cell]; rfl) (fun hf => by have := hlt _ hf; omega)).mono ?_
  rintro v w2 ⟨rfl, hm2, f2⟩
  obtain ⟨hR', hft⟩ := hR1.sub List.filter_sublist f2 hm2
  simp -implicitDefEqProofs only [go_sem, ↓reduceIte, Nat.reduceEqDiff, Int.reduceLT, not_false_eq_true, List.map_toArray, List.map_cons, List.map_nil, Option.isSome_some, Nat.reduceLT, Int.reduceToNat, Int.reducePow, Nat.reduceAdd, Int.toNat_natCast, Bool.not_true, Bool.not_false, Nat.mul_one, decide_true, decide_false, Bool.false_eq_true, List.getElem?_cons_zero, List.getElem?_cons_succ, Int.reduceEq, Option.map_some, Option.map_none, at_add, add_zero', Nat.zero_add, Nat.add_zero, Nat.zero_mul, List.getElem?_toArray, List.length_cons, List.length_nil, allOne_nil, allOne_cons, Bool.and_true, Bool.true_and, Nat.reduceLT, Nat.reduceLeDiff, Int.reduceLE, List.append_toArray, List.cons_append, List.nil_append, List.append_nil, hR'.box.cell]
  refine lenMK_of Try.underlying62 hm2 ?_
  have hl := hok.len
  have hfl : (R.filter fun r => !(r.u.owner == owner)).map (·.u) = T.l.filter fun u => !(u.owner == owner) := by
    rw [← hT, List.filter_map]; rfl
  have hl1 : (R.map Row.ent).length = T.l.length := by rw [← hT]; simp
  have hl2 : ((R.filter fun r => !(r.u.owner == owner)).map Row.ent).length = (T.l.filter fun u => !(u.owner == owner)).length := by rw [← hfl]; simp
  have hle := List.length_filter_le (fun u : Up => !(u.owner == owner)) T.l
  rw [hl1, hl2]
  have ew : IntKind.i64.wrap ((T.l.length : Int) - ((T.l.filter fun u => !(u.owner == owner)).length : Int)) = (T.l.length : Int) - ((T.l.filter fun u => !(u.owner == owner)).length : Int) := i64_nat (by omega) (by omega)
  simp -implicitDefEqProofs only [go_sem, ↓reduceIte, Nat.reduceEqDiff, Int.reduceLT, not_false_eq_true, List.map_toArray, List.map_cons, List.map_nil, Option.isSome_some, Nat.reduceLT, Int.reduceToNat, Int.reducePow, Nat.reduceAdd, Int.toNat_natCast, Bool.not_true, Bool.not_false, Nat.mul_one, decide_true, decide_false, Bool.false_eq_true, List.getElem?_cons_zero, List.getElem?_cons_succ, Int.reduceEq, Option.map_some, Option.map_none, at_add, add_zero', Nat.zero_add, Nat.add_zero, Nat.zero_mul, List.getElem?_toArray, List.length_cons, List.length_nil, allOne_nil, allOne_cons, Bool.and_true, Bool.true_and, Nat.reduceLT, Nat.reduceLeDiff, Int.reduceLE, List.append_toArray, List.cons_append, List.nil_append, List.append_nil, ew]
  exact ⟨rfl, _, ⟨m, clock, _, hR', hfl, rfl⟩, (kA.fx _).tr (f2.weaken fun k _ e => .inr (.inl e)), fun k hk => .inl (hft k hk)⟩
end
end Go.Proofs.Ytdnlnaeonhbfiaa.F
