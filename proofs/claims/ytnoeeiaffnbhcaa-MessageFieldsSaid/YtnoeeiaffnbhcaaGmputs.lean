/- The law that a message's bytes are the document's. Conditions: those of its row. -/
import Derived.Test.YtnoeeiaffnbhcaaGmlive
import Derived.Test.YtnoeeiaffnbhcaaGmgreat
import Derived.Test.YtnoeeiaffnbhcaaGrefput
namespace Go.Proofs.Ytnoeeiaffnbhcaa.F
open Go.RowKit Go.Proofs.Ytnoeeiaffnbhcaa.M Go.Proofs.Ytnoeeiaffnbhcaa.V
set_option linter.unusedSimpArgs false
set_option linter.unusedVariables false
set_option maxRecDepth 20000
theorem enc_bs {l : List Int} {x : Msg} (h : OkAll l x) : Bs (encAll l x) := fun b hb => by
  obtain ⟨f, hf, hb⟩ := List.mem_flatMap.1 hb
  exact (fc f).c.bs _ (h f hf) b hb
theorem puts_walk {w : World} {x : Msg} {cs : List Value} (hx : kMsg.rep (fun k => k < w.heap.size) w x cs) :
    callK Try.prog 3 #[.agg cs.toArray] w fun v w' => v = .bool true ∧ Keep w w' := by
  refine callK_of Try.func3 c3 r3 (by exact Nat.le_of_ble_eq_true rfl) ?_
  rw [m3]
  simp -implicitDefEqProofs only [go_sem, ↓reduceIte, Nat.reduceEqDiff, Int.reduceLT, Nat.reduceLT, Int.reduceToNat, Int.reducePow, Nat.reduceAdd, Int.reduceEq, Nat.reduceLeDiff, Int.reduceLE]
  have hM1 : MsgAt 37 (fun k => k < w.heap.size) (w.alloc (.cells cs.toArray 37)) w.heap.size x := ⟨cs, Blk.new w _ _, kMsg.keep hx (Fx.alloc _ _ _)⟩
  have kA : Keep w (w.alloc (.cells cs.toArray 37)) := Fx.alloc _ w _
  generalize w.alloc (.cells cs.toArray 37) = w1 at *
  obtain ⟨b0, hb0⟩ : ∃ b0, b0 = w.heap.size := ⟨_, rfl⟩
  rw [← hb0] at hM1 ⊢
  refine (alive_calls w1).mono ?_
  rintro v w2 ⟨rfl, k2⟩
  have hM2 := hM1.keep k2
  have kk2 := kA.tr k2
  obtain ⟨cs2, ld2, hr2⟩ := msg_load hM2
  simp -implicitDefEqProofs only [go_sem, ↓reduceIte, Nat.reduceEqDiff, Int.reduceLT, Nat.reduceLT, Int.reduceToNat, Int.reducePow, Nat.reduceAdd, Int.reduceEq, Nat.reduceLeDiff, Int.reduceLE, ld2]
  refine (greatMsg_calls hr2).mono ?_
  rintro v w3 ⟨⟨q, rfl⟩, k3⟩
  have hM3 := hM2.keep k3
  have kk3 := kk2.tr k3
  have s3 := kk3.size
  cases q with
  | true =>
    simp -implicitDefEqProofs only [go_sem, ↓reduceIte, Nat.reduceEqDiff, Int.reduceLT, Nat.reduceLT, Int.reduceToNat, Int.reducePow, Nat.reduceAdd, Int.reduceEq, Nat.reduceLeDiff, Int.reduceLE]
    exact ⟨trivial, kk3⟩
  | false =>
  obtain ⟨v, hck, _, hv, hwf⟩ := hM3.cell lnKind rfl
  simp only [List.cons.injEq, and_true] at hv
  subst hv
  obtain ⟨n0, n1⟩ := wf_u8' hwf
  obtain ⟨cs3, ld3, hr3⟩ := msg_load hM3
  simp -implicitDefEqProofs only [go_sem, ↓reduceIte, Nat.reduceEqDiff, Int.reduceLT, Nat.reduceLT, Int.reduceToNat, Int.reducePow, Nat.reduceAdd, Int.reduceEq, Nat.reduceLeDiff, Int.reduceLE, ld3]
  refine (put_msg_calls (kMsg.mono hr3 fun k hk _ => hk)).mono ?_
  rintro v w4 ⟨hv, k4⟩
  have hM4 := hM3.keep k4
  have kk4 := kk3.tr k4
  obtain ⟨cs4, ld4, hr4⟩ := msg_load hM4
  have hRm := rmsg_of hr4
  rcases hv with ⟨hno, rfl⟩ | ⟨hok, v1, rfl, ho⟩
  · simp -implicitDefEqProofs only [go_sem, ↓reduceIte, Nat.reduceEqDiff, Int.reduceLT, Nat.reduceLT, Int.reduceToNat, Int.reducePow, Nat.reduceAdd, Int.reduceEq, Nat.reduceLeDiff, Int.reduceLE, ld4]
    refine (refPutMsg_calls (kMsg.mono hr4 fun k hk _ => hk)).mono ?_
    rintro v w5 ⟨hv5, k5⟩
    rcases hv5 with ⟨_, rfl⟩ | ⟨h, _⟩
    rotate_left
    · exact absurd h hno
    have z0 : (false == false) = true := rfl
    simp -implicitDefEqProofs only [go_sem, ↓reduceIte, Nat.reduceEqDiff, Int.reduceLT, Nat.reduceLT, Int.reduceToNat, Int.reducePow, Nat.reduceAdd, Int.reduceEq, Nat.reduceLeDiff, Int.reduceLE, z0]
    refine cv_bytes (xs := []) bs8 (Elems.rd (Elems.nil (Kind.int .u8) (fun _ => False) w5 none)) ?_
    simp -implicitDefEqProofs only [go_sem, ↓reduceIte, Nat.reduceEqDiff, Int.reduceLT, Nat.reduceLT, Int.reduceToNat, Int.reducePow, Nat.reduceAdd, Int.reduceEq, Nat.reduceLeDiff, Int.reduceLE]
    refine cv_bytes (xs := []) bs8 (Elems.rd (Elems.nil (Kind.int .u8) (fun _ => False) w5 none)) ?_
    have z1 : ((strOfNums []).toList == (strOfNums []).toList) = true := beq_self_eq_true _
    have hM5 := hM4.keep k5
    have kk5 := kk4.tr k5
    obtain ⟨v, hck5, _, hv, _⟩ := hM5.cell lnKind rfl
    simp only [List.cons.injEq, and_true] at hv
    subst hv
    simp -implicitDefEqProofs only [go_sem, ↓reduceIte, Nat.reduceEqDiff, Int.reduceLT, Nat.reduceLT, Int.reduceToNat, Int.reducePow, Nat.reduceAdd, Int.reduceEq, Nat.reduceLeDiff, Int.reduceLE, z1, hck5]
    refine (get_msg_calls (kind := x.kind) (A := none) (c := 0) (b := []) n0 n1 (Nat.le_refl 0) (Nat.zero_le _) (Elems.nil _ _ _ _)).mono ?_
    rintro v w6 ⟨cs6, rfl, hr6, k6⟩
    obtain ⟨w7, S7, hM7, k7, s7⟩ := store_msg hr6
    simp -implicitDefEqProofs only [go_sem, ↓reduceIte, Nat.reduceEqDiff, Int.reduceLT, Nat.reduceLT, Int.reduceToNat, Int.reducePow, Nat.reduceAdd, Int.reduceEq, Nat.reduceLeDiff, Int.reduceLE, S7]
    exact ⟨trivial, (kk5.tr k6).tr k7⟩
  · simp -implicitDefEqProofs only [go_sem, ↓reduceIte, Nat.reduceEqDiff, Int.reduceLT, Nat.reduceLT, Int.reduceToNat, Int.reducePow, Nat.reduceAdd, Int.reduceEq, Nat.reduceLeDiff, Int.reduceLE, ld4]
    refine (refPutMsg_calls (kMsg.mono hr4 fun k hk _ => hk)).mono ?_
    rintro v w5 ⟨hv5, k5⟩
    rcases hv5 with ⟨h, _⟩ | ⟨_, u1, l, hf, rfl, ho5⟩
    · exact absurd hok h
    have z0 : (true == true) = true := rfl
    simp -implicitDefEqProofs only [go_sem, ↓reduceIte, Nat.reduceEqDiff, Int.reduceLT, Nat.reduceLT, Int.reduceToNat, Int.reducePow, Nat.reduceAdd, Int.reduceEq, Nat.reduceLeDiff, Int.reduceLE, z0]
    rw [put_bytes hRm hf hok] at ho
    have hen := enc_bs ((putOk_iff hRm hf).1 hok).2
    have hro := round hRm hok
    rw [put_bytes hRm hf hok] at hro
    generalize encAll (nums l) x = bs at *
    have ho := ho.fx k5 (fun _ _ h => h)
    obtain ⟨A, c, rfl, hc, hr⟩ := ho.slice
    obtain ⟨A5, c5, rfl, hc5, hr5⟩ := ho5.slice
    refine cv_bytes bs8 hr ?_
    simp -implicitDefEqProofs only [go_sem, ↓reduceIte, Nat.reduceEqDiff, Int.reduceLT, Nat.reduceLT, Int.reduceToNat, Int.reducePow, Nat.reduceAdd, Int.reduceEq, Nat.reduceLeDiff, Int.reduceLE]
    refine cv_bytes bs8 hr5 ?_
    have z1 : ((strOfNums bs).toList == (strOfNums bs).toList) = true := beq_self_eq_true _
    have hM5 := hM4.keep k5
    have kk5 := kk4.tr k5
    obtain ⟨v, hck5, _, hv, _⟩ := hM5.cell lnKind rfl
    simp only [List.cons.injEq, and_true] at hv
    subst hv
    obtain ⟨hcm, he⟩ := elems_own ho hen
    simp -implicitDefEqProofs only [go_sem, ↓reduceIte, Nat.reduceEqDiff, Int.reduceLT, Nat.reduceLT, Int.reduceToNat, Int.reducePow, Nat.reduceAdd, Int.reduceEq, Nat.reduceLeDiff, Int.reduceLE, z1, hck5]
    refine (get_msg_calls n0 n1 hc hcm (he.mono Nat.zero_lt_one fun k hk _ => hk)).mono ?_
    rw [hro]
    rintro v w6 ⟨cs6, rfl, hr6, k6⟩
    obtain ⟨w7, S7, hM7, k7, s7⟩ := store_msg hr6
    have z2 : ((0 : Int) == 0) = true := rfl
    obtain ⟨cs7, ld7, hr7⟩ := msg_load hM7
    have hMx := (hM5.keep k6).keep k7
    obtain ⟨cs8, ld8, hr8⟩ := msg_load hMx
    simp -implicitDefEqProofs only [go_sem, ↓reduceIte, Nat.reduceEqDiff, Int.reduceLT, Nat.reduceLT, Int.reduceToNat, Int.reducePow, Nat.reduceAdd, Int.reduceEq, Nat.reduceLeDiff, Int.reduceLE, S7, z2, ld7, ld8]
    refine (same_calls hr8 hr7).mono ?_
    rintro v w8 ⟨⟨q, rfl, hqq⟩, k8⟩
    have hq1 : q = true := hqq.2 rfl
    subst hq1
    simp -implicitDefEqProofs only [go_sem, ↓reduceIte, Nat.reduceEqDiff, Int.reduceLT, Nat.reduceLT, Int.reduceToNat, Int.reducePow, Nat.reduceAdd, Int.reduceEq, Nat.reduceLeDiff, Int.reduceLE]
    exact ⟨trivial, ((kk5.tr k6).tr k7).tr k8⟩
end Go.Proofs.Ytnoeeiaffnbhcaa.F
