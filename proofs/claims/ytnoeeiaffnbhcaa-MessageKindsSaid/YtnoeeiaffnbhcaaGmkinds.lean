/- The law that of a kind that isn't there nothing is written or read. Conditions: those of its row. -/
import Derived.Test.YtnoeeiaffnbhcaaGmlive
namespace Go.Proofs.Ytnoeeiaffnbhcaa.F
open Go.RowKit Go.Proofs.Ytnoeeiaffnbhcaa.M Go.Proofs.Ytnoeeiaffnbhcaa.V
set_option linter.unusedSimpArgs false
set_option linter.unusedVariables false
set_option maxRecDepth 20000
theorem kinds_walk {w : World} {x : Msg} {cs : List Value} {A : Option Addr} {c : Nat} {b : List Int} (hx : kMsg.rep (fun k => k < w.heap.size) w x cs) (hl : b.length ≤ c) (hc : c ≤ maxLen) (he : Elems (Kind.int .u8) (fun k => k < w.heap.size) w A b) :
    callK Try.prog 6 #[.agg cs.toArray, .slice A b.length c] w fun v w' => v = .bool true ∧ Keep w w' := by
  refine callK_of Try.func6 c6 r6 (by exact Nat.le_of_ble_eq_true rfl) ?_
  rw [m6]
  simp -implicitDefEqProofs only [go_sem, ↓reduceIte, Nat.reduceEqDiff, Int.reduceLT, not_false_eq_true, List.map_toArray, List.map_cons, List.map_nil, Option.isSome_some, Nat.reduceLT, Int.reduceToNat, Int.reducePow, Nat.reduceAdd, Int.toNat_natCast, Bool.not_true, Bool.not_false, Nat.mul_one, decide_true, decide_false, Bool.false_eq_true, List.getElem?_cons_zero, List.getElem?_cons_succ, Int.reduceEq, Option.map_some, Option.map_none, at_add, add_zero', Nat.zero_add, Nat.add_zero, Nat.zero_mul, List.getElem?_toArray, List.length_cons, List.length_nil, allOne_nil, allOne_cons, Bool.and_true, Bool.true_and, Nat.reduceLT, Nat.reduceLeDiff, Int.reduceLE, List.append_toArray, List.cons_append, List.nil_append, List.append_nil]
  have hM1 : MsgAt 37 (fun k => k < w.heap.size) (w.alloc (.cells cs.toArray 37)) w.heap.size x := ⟨cs, Blk.new w _ _, kMsg.keep hx (Fx.alloc _ _ _)⟩
  have kA : Keep w (w.alloc (.cells cs.toArray 37)) := Fx.alloc _ w _
  generalize w.alloc (.cells cs.toArray 37) = w1 at *
  obtain ⟨b0, hb0⟩ : ∃ b0, b0 = w.heap.size := ⟨_, rfl⟩
  rw [← hb0] at hM1 ⊢
  refine (alive_calls w1).mono ?_
  rintro v w2 ⟨rfl, k2⟩
  have hM2 := hM1.keep k2
  have kk2 := kA.tr k2
  obtain ⟨cs2, ld2, hr2⟩ := msg_load hM2
  simp -implicitDefEqProofs only [go_sem, ↓reduceIte, Nat.reduceEqDiff, Int.reduceLT, not_false_eq_true, List.map_toArray, List.map_cons, List.map_nil, Option.isSome_some, Nat.reduceLT, Int.reduceToNat, Int.reducePow, Nat.reduceAdd, Int.toNat_natCast, Bool.not_true, Bool.not_false, Nat.mul_one, decide_true, decide_false, Bool.false_eq_true, List.getElem?_cons_zero, List.getElem?_cons_succ, Int.reduceEq, Option.map_some, Option.map_none, at_add, add_zero', Nat.zero_add, Nat.add_zero, Nat.zero_mul, List.getElem?_toArray, List.length_cons, List.length_nil, allOne_nil, allOne_cons, Bool.and_true, Bool.true_and, Nat.reduceLT, Nat.reduceLeDiff, Int.reduceLE, List.append_toArray, List.cons_append, List.nil_append, List.append_nil, ld2]
  refine (greatMsg_calls hr2).mono ?_
  rintro v w3 ⟨⟨q, rfl⟩, k3⟩
  have hM3 := hM2.keep k3
  have kk3 := kk2.tr k3
  have s3 := kk3.size
  cases q with
  | true =>
    simp -implicitDefEqProofs only [go_sem, ↓reduceIte, Nat.reduceEqDiff, Int.reduceLT, not_false_eq_true, List.map_toArray, List.map_cons, List.map_nil, Option.isSome_some, Nat.reduceLT, Int.reduceToNat, Int.reducePow, Nat.reduceAdd, Int.toNat_natCast, Bool.not_true, Bool.not_false, Nat.mul_one, decide_true, decide_false, Bool.false_eq_true, List.getElem?_cons_zero, List.getElem?_cons_succ, Int.reduceEq, Option.map_some, Option.map_none, at_add, add_zero', Nat.zero_add, Nat.add_zero, Nat.zero_mul, List.getElem?_toArray, List.length_cons, List.length_nil, allOne_nil, allOne_cons, Bool.and_true, Bool.true_and, Nat.reduceLT, Nat.reduceLeDiff, Int.reduceLE, List.append_toArray, List.cons_append, List.nil_append, List.append_nil]
    exact ⟨trivial, kk3⟩
  | false =>
  obtain ⟨v, hck, _, hv, hwf⟩ := hM3.cell lnKind rfl
  simp only [List.cons.injEq, and_true] at hv
  subst hv
  obtain ⟨n0, n1⟩ := wf_u8' hwf
  obtain ⟨cs3, ld3, hr3⟩ := msg_load hM3
  by_cases h24 : 1 ≤ x.kind ∧ x.kind ≤ 24
  · obtain ⟨h1, h2⟩ := h24
    simp -implicitDefEqProofs only [go_sem, ↓reduceIte, Nat.reduceEqDiff, Int.reduceLT, not_false_eq_true, List.map_toArray, List.map_cons, List.map_nil, Option.isSome_some, Nat.reduceLT, Int.reduceToNat, Int.reducePow, Nat.reduceAdd, Int.toNat_natCast, Bool.not_true, Bool.not_false, Nat.mul_one, decide_true, decide_false, Bool.false_eq_true, List.getElem?_cons_zero, List.getElem?_cons_succ, Int.reduceEq, Option.map_some, Option.map_none, at_add, add_zero', Nat.zero_add, Nat.add_zero, Nat.zero_mul, List.getElem?_toArray, List.length_cons, List.length_nil, allOne_nil, allOne_cons, Bool.and_true, Bool.true_and, Nat.reduceLT, Nat.reduceLeDiff, Int.reduceLE, List.append_toArray, List.cons_append, List.nil_append, List.append_nil, hck, h1, h2]
    exact ⟨trivial, kk3⟩
  have hform : form x.kind = none := by
    rcases kinds_cases x.kind with h | h
    · exact absurd (by omega : 1 ≤ x.kind ∧ x.kind ≤ 24) h24
    · simp only [form, h, if_false]
  have hno : ¬ PutOk x := fun h => by
    have := h.1
    unfold putMsg at this
    rw [hform] at this
    cases this
  have hgm : getMsg x.kind b = (zMsg 0, 61) := by unfold getMsg; rw [hform]
  have ready : ∀ (K : Prop), (¬ 1 ≤ x.kind → K) → (1 ≤ x.kind → ¬ x.kind ≤ 24 → K) → K := by
    intro K h1 h2
    by_cases h : 1 ≤ x.kind
    · exact h2 h (fun e => h24 ⟨h, e⟩)
    · exact h1 h
  refine ready _ (fun h1 => ?ca) (fun h1 h2 => ?cb)
  case' ca => simp -implicitDefEqProofs only [go_sem, ↓reduceIte, Nat.reduceEqDiff, Int.reduceLT, not_false_eq_true, List.map_toArray, List.map_cons, List.map_nil, Option.isSome_some, Nat.reduceLT, Int.reduceToNat, Int.reducePow, Nat.reduceAdd, Int.toNat_natCast, Bool.not_true, Bool.not_false, Nat.mul_one, decide_true, decide_false, Bool.false_eq_true, List.getElem?_cons_zero, List.getElem?_cons_succ, Int.reduceEq, Option.map_some, Option.map_none, at_add, add_zero', Nat.zero_add, Nat.add_zero, Nat.zero_mul, List.getElem?_toArray, List.length_cons, List.length_nil, allOne_nil, allOne_cons, Bool.and_true, Bool.true_and, Nat.reduceLT, Nat.reduceLeDiff, Int.reduceLE, List.append_toArray, List.cons_append, List.nil_append, List.append_nil, hck, h1, ld3]
  case' cb => simp -implicitDefEqProofs only [go_sem, ↓reduceIte, Nat.reduceEqDiff, Int.reduceLT, not_false_eq_true, List.map_toArray, List.map_cons, List.map_nil, Option.isSome_some, Nat.reduceLT, Int.reduceToNat, Int.reducePow, Nat.reduceAdd, Int.toNat_natCast, Bool.not_true, Bool.not_false, Nat.mul_one, decide_true, decide_false, Bool.false_eq_true, List.getElem?_cons_zero, List.getElem?_cons_succ, Int.reduceEq, Option.map_some, Option.map_none, at_add, add_zero', Nat.zero_add, Nat.add_zero, Nat.zero_mul, List.getElem?_toArray, List.length_cons, List.length_nil, allOne_nil, allOne_cons, Bool.and_true, Bool.true_and, Nat.reduceLT, Nat.reduceLeDiff, Int.reduceLE, List.append_toArray, List.cons_append, List.nil_append, List.append_nil, hck, h1, h2, ld3]
  all_goals
    refine (put_msg_calls (kMsg.mono hr3 fun k hk _ => hk)).mono ?_
    rintro v w4 ⟨hv, k4⟩
    rcases hv with ⟨_, rfl⟩ | ⟨h, _⟩
    rotate_left
    · exact absurd h hno
    have hM4 := hM3.keep k4
    have kk4 := kk3.tr k4
    obtain ⟨v, hck4, _, hv, _⟩ := hM4.cell lnKind rfl
    simp only [List.cons.injEq, and_true] at hv
    subst hv
    simp -implicitDefEqProofs only [go_sem, ↓reduceIte, Nat.reduceEqDiff, Int.reduceLT, not_false_eq_true, List.map_toArray, List.map_cons, List.map_nil, Option.isSome_some, Nat.reduceLT, Int.reduceToNat, Int.reducePow, Nat.reduceAdd, Int.toNat_natCast, Bool.not_true, Bool.not_false, Nat.mul_one, decide_true, decide_false, Bool.false_eq_true, List.getElem?_cons_zero, List.getElem?_cons_succ, Int.reduceEq, Option.map_some, Option.map_none, at_add, add_zero', Nat.zero_add, Nat.add_zero, Nat.zero_mul, List.getElem?_toArray, List.length_cons, List.length_nil, allOne_nil, allOne_cons, Bool.and_true, Bool.true_and, Nat.reduceLT, Nat.reduceLeDiff, Int.reduceLE, List.append_toArray, List.cons_append, List.nil_append, List.append_nil, hck4]
    refine (get_msg_calls n0 n1 hl hc ((he.keep kk4).mono Nat.zero_lt_one fun k hk _ => hk)).mono ?_
    rw [hgm]
    rintro v w5 ⟨cs5, rfl, hr5, k5⟩
    obtain ⟨w6, S6, hM6, k6, s6⟩ := store_msg hr5
    have kk6 := (kk4.tr k5).tr k6
    obtain ⟨cs6, ld6, hr6⟩ := msg_load hM6
    have z1 : (((0 : Nat) : Int) == 0) = true := rfl
    have z2 : ((61 : Int) == 61) = true := rfl
    simp -implicitDefEqProofs only [go_sem, ↓reduceIte, Nat.reduceEqDiff, Int.reduceLT, not_false_eq_true, List.map_toArray, List.map_cons, List.map_nil, Option.isSome_some, Nat.reduceLT, Int.reduceToNat, Int.reducePow, Nat.reduceAdd, Int.toNat_natCast, Bool.not_true, Bool.not_false, Nat.mul_one, decide_true, decide_false, Bool.false_eq_true, List.getElem?_cons_zero, List.getElem?_cons_succ, Int.reduceEq, Option.map_some, Option.map_none, at_add, add_zero', Nat.zero_add, Nat.add_zero, Nat.zero_mul, List.getElem?_toArray, List.length_cons, List.length_nil, allOne_nil, allOne_cons, Bool.and_true, Bool.true_and, Nat.reduceLT, Nat.reduceLeDiff, Int.reduceLE, List.append_toArray, List.cons_append, List.nil_append, List.append_nil, S6, z1, z2, ld6]
    refine (same_calls (y := zMsg 0) (U' := fun _ => False) hr6 (zMsg_rep (k := 0) (by decide) (by decide))).mono ?_
    rintro v w7 ⟨⟨q, rfl, hqq⟩, k7⟩
    have hq1 : q = true := hqq.2 rfl
    subst hq1
    simp -implicitDefEqProofs only [go_sem, ↓reduceIte, Nat.reduceEqDiff, Int.reduceLT, not_false_eq_true, List.map_toArray, List.map_cons, List.map_nil, Option.isSome_some, Nat.reduceLT, Int.reduceToNat, Int.reducePow, Nat.reduceAdd, Int.toNat_natCast, Bool.not_true, Bool.not_false, Nat.mul_one, decide_true, decide_false, Bool.false_eq_true, List.getElem?_cons_zero, List.getElem?_cons_succ, Int.reduceEq, Option.map_some, Option.map_none, at_add, add_zero', Nat.zero_add, Nat.add_zero, Nat.zero_mul, List.getElem?_toArray, List.length_cons, List.length_nil, allOne_nil, allOne_cons, Bool.and_true, Bool.true_and, Nat.reduceLT, Nat.reduceLeDiff, Int.reduceLE, List.append_toArray, List.cons_append, List.nil_append, List.append_nil]
    exact ⟨trivial, kk6.tr k7⟩
end Go.Proofs.Ytnoeeiaffnbhcaa.F
