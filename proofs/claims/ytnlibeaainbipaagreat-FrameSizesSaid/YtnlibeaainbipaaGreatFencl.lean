/- The law that a message's frame is the document's, or its error. Conditions: those of its row. -/
import Derived.Test.YtnlibeaainbipaaGreatFalive
import Derived.Test.YtnlibeaainbipaaGreatGmgreat
import Derived.Test.YtnlibeaainbipaaGreatGrefput
namespace Go.Proofs.YtnlibeaainbipaaGreat.F
open Go.RowKit Go.Proofs.YtnlibeaainbipaaGreat.M Go.Proofs.YtnlibeaainbipaaGreat.V
set_option linter.unusedSimpArgs false
set_option linter.unusedVariables false
set_option maxRecDepth 20000
theorem enc_bs {l : List Int} {x : Msg} (h : OkAll l x) : Bs (encAll l x) := fun b hb => by
  obtain ⟨f, hf, hb⟩ := List.mem_flatMap.1 hb
  exact (fc f).c.bs _ (h f hf) b hb
theorem put_bs {x : Msg} (hR : RMsg x) (h : PutOk x) : Bs (putMsg x).2.b := by
  cases hf : form x.kind with
  | none => have := h.1; unfold putMsg at this; rw [hf] at this; cases this
  | some l => rw [put_bytes hR hf h]; exact enc_bs ((putOk_iff hR hf).1 h).2
theorem refSum_calls {w : World} {b : List Int} {A : Option Addr} {c : Nat} (hr : RdI w .u8 A b) (hb : Bs b) (hl : b.length ≤ 1000000000) :
    callK Tryz.prog 26 #[.slice A b.length c] w fun v w' => (∃ A', v = .slice A' 4 4 ∧ RdI w' .u8 A' (sum4 (crcI b))) ∧ Keep w w' := by
  refine callK_of Tryz.func26 c26 r26 (by exact Nat.le_of_ble_eq_true rfl) ?_
  rw [m26]
  simp -implicitDefEqProofs only [go_sem, seval]
  have e := byts_bvs hb
  have hL : (bvs b).length = b.length := by simp [bvs]
  have h := refOf_calls (bs := bvs b) (A := A) (c := c) (w := w) (by rw [e]; exact hr) (by omega)
  rw [hL] at h
  refine h.mono ?_
  rintro v w1 ⟨rfl, rfl⟩
  obtain ⟨r0, r1⟩ := crcI_range b
  have hcr : wi (more 0#32 (bvs b)) = crcI b := rfl
  rw [hcr]
  have E1 : IntKind.u8.wrap (IntKind.u32.wrap ((crcI b).tdiv 16777216)) = crcI b / 16777216 % 256 := by rw [Int.tdiv_eq_ediv_of_nonneg r0, IntKind.wrap_u32, IntKind.wrap_u8]; omega
  have E2 : IntKind.u8.wrap (IntKind.u32.wrap ((crcI b).tdiv 65536)) = crcI b / 65536 % 256 := by rw [Int.tdiv_eq_ediv_of_nonneg r0, IntKind.wrap_u32, IntKind.wrap_u8]; omega
  have E3 : IntKind.u8.wrap (IntKind.u32.wrap ((crcI b).tdiv 256)) = crcI b / 256 % 256 := by rw [Int.tdiv_eq_ediv_of_nonneg r0, IntKind.wrap_u32, IntKind.wrap_u8]; omega
  have E4 : IntKind.u8.wrap (crcI b) = crcI b % 256 := IntKind.wrap_u8 _
  simp -implicitDefEqProofs only [go_sem, seval, E1, E2, E3, E4]
  refine bsl_four ie8 ?_
  simp -implicitDefEqProofs only [go_sem, seval]
  exact ⟨⟨_, rfl, RdI.new w1 5 .u8 (sum4 (crcI b))⟩, Fx.alloc _ _ _⟩
theorem refenc_calls {w : World} {x : Msg} {cs : List Value} (hx : kMsg.rep (fun k => k < w.heap.size) w x cs) : callK Tryz.prog 10 #[.agg cs.toArray] w fun v w' => EncV w w' x v ∧ Keep w w' := by
  refine callK_of Tryz.func10 c10 r10 (by exact Nat.le_of_ble_eq_true rfl) ?_
  rw [m10]
  simp -implicitDefEqProofs only [go_sem, seval]
  have hM1 : MsgAt 37 (fun k => k < w.heap.size) (w.alloc (.cells cs.toArray 37)) w.heap.size x := ⟨cs, Blk.new w _ _, kMsg.keep hx (Fx.alloc _ _ _)⟩
  have kA : Keep w (w.alloc (.cells cs.toArray 37)) := Fx.alloc _ w _
  have s1 := size_alloc w (.cells cs.toArray 37)
  generalize w.alloc (.cells cs.toArray 37) = w1 at *
  obtain ⟨b0, hb0⟩ : ∃ b0, b0 = w.heap.size := ⟨_, rfl⟩
  rw [← hb0] at hM1 s1 ⊢
  obtain ⟨cs1, ld1, hr1⟩ := msg_load hM1
  have hRm := rmsg_of hr1
  simp -implicitDefEqProofs only [go_sem, seval, ld1]
  refine (refPutMsg_calls (kMsg.mono hr1 fun k hk _ => by omega)).mono ?_
  rintro v w2 ⟨hv, k2⟩
  have kk2 := kA.tr k2
  rcases hv with ⟨hno, rfl⟩ | ⟨hok, v1, l, hf, rfl, ho⟩
  · simp -implicitDefEqProofs only [go_sem, seval]
    exact ⟨.inl ⟨hno, rfl⟩, kk2⟩
  have hM2 := hM1.keep k2
  have hbm := put_bs hRm hok
  rw [← put_bytes hRm hf hok] at ho
  generalize hm : (putMsg x).2.b = m at *
  obtain ⟨A, c, rfl, hc, hr⟩ := ho.slice
  by_cases hl : (4096 : Int) < (m.length : Int)
  · simp -implicitDefEqProofs only [go_sem, seval, hl]
    exact ⟨.inr (.inl ⟨hok, by rw [hm]; omega, rfl⟩), kk2⟩
  have eL : IntKind.u64.wrap (m.length : Int) = ((m.length : Nat) : Int) := u64_nat (by omega) (by omega)
  obtain ⟨v, hck, _, hv, hwf⟩ := hM2.cell lnKind rfl
  simp only [List.cons.injEq, and_true] at hv
  subst hv
  obtain ⟨n0, n1⟩ := wf_u8' hwf
  have s2 := k2.size
  simp -implicitDefEqProofs only [go_sem, seval, hl, hck]
  refine bsl_four ie8 ?_
  have kB : Keep w2 (w2.alloc (.cells #[.int .u8 76, .int .u8 68, .int .u8 1, .int .u8 x.kind] 5)) := Fx.alloc _ _ _
  have oB : OwnI 5 .u8 w2.heap.size (w2.alloc (.cells #[.int .u8 76, .int .u8 68, .int .u8 1, .int .u8 x.kind] 5)) (.slice (some (At w2.heap.size 0)) 4 4) [76, 68, 1, x.kind] := OwnI.new w2 5 .u8 [76, 68, 1, x.kind] (Nat.le_refl _) (by show 4 ≤ 140737488355328; decide)
  have hr3 := hr.fx kB (fun _ _ h => h)
  have s3 := kB.size
  generalize w2.alloc (.cells #[.int .u8 76, .int .u8 68, .int .u8 1, .int .u8 x.kind] 5) = w3 at *
  simp -implicitDefEqProofs only [go_sem, seval, eL]
  refine (refPut_calls m.length (show m.length < 18446744073709551616 by omega) w3).mono ?_
  rintro v w4 ⟨hu, k4⟩
  have hvl : (vput m.length).length ≤ 10 := vput_u64 (n := m.length) (by omega)
  obtain ⟨A4, c4, rfl, hc4, hr4⟩ := hu.slice
  have s4 := k4.size
  simp -implicitDefEqProofs only [go_sem, seval]
  refine append_own ie8 (by decide) (oB.fx k4 (fun _ _ h => h)) hr4 (by rw [show ([76, 68, 1, x.kind] : List Int).length = 4 from rfl]; omega) (by omega) ?_
  intro v5 w5 o5 f5 _
  have K5 : Keep w2 w5 := (kB.tr k4).new f5 (fun k e hk => by have := (oB.lt e).1; omega)
  have hr5 := hr.fx K5 (fun _ _ h => h)
  have s5 := K5.size
  simp -implicitDefEqProofs only [go_sem, seval]
  refine append_own ie8 (by decide) o5 hr5 (by rw [List.length_append, show ([76, 68, 1, x.kind] : List Int).length = 4 from rfl]; omega) (by omega) ?_
  intro v6 w6 o6 f6 _
  have K6 : Keep w2 w6 := K5.new f6 (fun k e hk => by have := (o5.lt e).1; omega)
  have s6 := K6.size
  have o6 : OwnI 5 .u8 w2.heap.size w6 v6 (headF x.kind m) := o6
  have hlen : (headF x.kind m).length ≤ 5000 := by simp [headF]; omega
  have hhb := headF_bs n0 n1 hbm
  have hfr : frameF x.kind m = headF x.kind m ++ sum4 (crcI (headF x.kind m)) := rfl
  generalize headF x.kind m = b at *
  obtain ⟨A6, c6, rfl, hc6, hr6⟩ := o6.slice
  simp -implicitDefEqProofs only [go_sem, seval]
  refine (refSum_calls hr6 hhb (by omega)).mono ?_
  rintro v w7 ⟨⟨A7, rfl, hr7⟩, k7⟩
  have s7 := k7.size
  simp -implicitDefEqProofs only [go_sem, seval]
  refine append_own (ys := sum4 (crcI b)) ie8 (by decide) (o6.fx k7 (fun _ _ h => h)) hr7 (by rw [show (sum4 (crcI b)).length = 4 from rfl]; omega) (by omega) ?_
  intro v8 w8 o8 f8 _
  simp -implicitDefEqProofs only [go_sem, seval]
  exact ⟨.inr (.inr ⟨hok, by rw [hm]; omega, v8, rfl, by rw [hm, hfr]; exact o8.lower (by omega)⟩), kk2.tr ((K6.tr k7).new f8 (fun k e hk => by have := (o6.lt e).1; omega))⟩
theorem encodes_walk {w : World} {x : Msg} {cs : List Value} (hx : kMsg.rep (fun k => k < w.heap.size) w x cs) :
    callK Tryz.prog 3 #[.agg cs.toArray] w fun v w' => v = .bool true ∧ Keep w w' := by
  refine callK_of Tryz.func3 c3 r3 (by exact Nat.le_of_ble_eq_true rfl) ?_
  rw [m3]
  simp -implicitDefEqProofs only [go_sem, seval]
  have hM1 : MsgAt 37 (fun k => k < w.heap.size) (w.alloc (.cells cs.toArray 37)) w.heap.size x := ⟨cs, Blk.new w _ _, kMsg.keep hx (Fx.alloc _ _ _)⟩
  have kA : Keep w (w.alloc (.cells cs.toArray 37)) := Fx.alloc _ w _
  generalize w.alloc (.cells cs.toArray 37) = w1 at *
  obtain ⟨b0, hb0⟩ : ∃ b0, b0 = w.heap.size := ⟨_, rfl⟩
  rw [← hb0] at hM1 ⊢
  refine (falive_calls w1).mono ?_
  rintro v w2 ⟨rfl, k2⟩
  have hM2 := hM1.keep k2
  have kk2 := kA.tr k2
  obtain ⟨cs2, ld2, hr2⟩ := msg_load hM2
  simp -implicitDefEqProofs only [go_sem, seval, ld2]
  refine (greatMsg_calls hr2).mono ?_
  rintro v w3 ⟨⟨q, rfl⟩, k3⟩
  have hM3 := hM2.keep k3
  have kk3 := kk2.tr k3
  have s3 := kk3.size
  cases q with
  | true =>
    simp -implicitDefEqProofs only [go_sem, seval]
    exact ⟨trivial, kk3⟩
  | false =>
  obtain ⟨cs3, ld3, hr3⟩ := msg_load hM3
  have hRm := rmsg_of hr3
  simp -implicitDefEqProofs only [go_sem, seval, ld3]
  refine (encode_calls (kMsg.mono hr3 fun k hk _ => hk) (fun h => put_bs hRm h)).mono ?_
  rintro v w4 ⟨hv, k4⟩
  have hM4 := hM3.keep k4
  have kk4 := kk3.tr k4
  obtain ⟨cs4, ld4, hr4⟩ := msg_load hM4
  have nilrd : ∀ w : World, RdI w .u8 none ([] : List Int) := fun w => Elems.rd (Elems.nil (Kind.int .u8) (fun _ => False) w none)
  have zS : ((strOfNums []).toList == (strOfNums []).toList) = true := beq_self_eq_true _
  have z62 : ((62 : Int) == 62) = true := rfl
  have z72 : ((72 : Int) == 72) = true := rfl
  have z00 : ((0 : Int) == 0) = true := rfl
  rcases hv with ⟨hno, rfl⟩ | ⟨hok, hl, rfl⟩ | ⟨hok, hl, v1, rfl, ho⟩
  · simp -implicitDefEqProofs only [go_sem, seval, ld4]
    refine (refenc_calls (kMsg.mono hr4 fun k hk _ => hk)).mono ?_
    rintro v w5 ⟨hv5, k5⟩
    rcases hv5 with ⟨_, rfl⟩ | ⟨h, _⟩ | ⟨h, _⟩
    rotate_left
    · exact absurd h hno
    · exact absurd h hno
    simp -implicitDefEqProofs only [go_sem, seval, z62]
    refine cv_bytes (xs := []) bs8 (nilrd _) ?_
    simp -implicitDefEqProofs only [go_sem, seval]
    refine cv_bytes (xs := []) bs8 (nilrd _) ?_
    simp -implicitDefEqProofs only [go_sem, seval, zS]
    exact ⟨trivial, kk4.tr k5⟩
  · simp -implicitDefEqProofs only [go_sem, seval, ld4]
    refine (refenc_calls (kMsg.mono hr4 fun k hk _ => hk)).mono ?_
    rintro v w5 ⟨hv5, k5⟩
    rcases hv5 with ⟨h, _⟩ | ⟨_, _, rfl⟩ | ⟨_, h, _⟩
    · exact absurd hok h
    rotate_left
    · omega
    simp -implicitDefEqProofs only [go_sem, seval, z72]
    refine cv_bytes (xs := []) bs8 (nilrd _) ?_
    simp -implicitDefEqProofs only [go_sem, seval]
    refine cv_bytes (xs := []) bs8 (nilrd _) ?_
    simp -implicitDefEqProofs only [go_sem, seval, zS]
    exact ⟨trivial, kk4.tr k5⟩
  · simp -implicitDefEqProofs only [go_sem, seval, ld4]
    refine (refenc_calls (kMsg.mono hr4 fun k hk _ => hk)).mono ?_
    rintro v w5 ⟨hv5, k5⟩
    rcases hv5 with ⟨h, _⟩ | ⟨_, h, _⟩ | ⟨_, _, u1, rfl, ho5⟩
    · exact absurd hok h
    · omega
    have ho := ho.fx k5 (fun _ _ h => h)
    generalize frameF x.kind (putMsg x).2.b = bs at *
    obtain ⟨A, c, rfl, hc, hr⟩ := ho.slice
    obtain ⟨A5, c5, rfl, hc5, hr5⟩ := ho5.slice
    simp -implicitDefEqProofs only [go_sem, seval, z00]
    refine cv_bytes bs8 hr ?_
    simp -implicitDefEqProofs only [go_sem, seval]
    refine cv_bytes bs8 hr5 ?_
    have zB : ((strOfNums bs).toList == (strOfNums bs).toList) = true := beq_self_eq_true _
    simp -implicitDefEqProofs only [go_sem, seval, zB]
    exact ⟨trivial, kk4.tr k5⟩
end Go.Proofs.YtnlibeaainbipaaGreat.F
