/- The law of a frame's size. Conditions: those of its row. -/
import Derived.Test.YtnlibeaainbipaaGreatFencl
namespace Go.Proofs.YtnlibeaainbipaaGreat.F
open Go.RowKit Go.Proofs.YtnlibeaainbipaaGreat.M Go.Proofs.YtnlibeaainbipaaGreat.V
set_option linter.unusedSimpArgs false
set_option linter.unusedVariables false
set_option maxRecDepth 20000
theorem sizes_walk {w : World} {x : Msg} {cs : List Value} (hx : kMsg.rep (fun k => k < w.heap.size) w x cs) :
    callK Tryz.prog 5 #[.agg cs.toArray] w fun v w' => v = .bool true ∧ Keep w w' := by
  refine callK_of Tryz.func5 c5 r5 (by exact Nat.le_of_ble_eq_true rfl) ?_
  rw [m5]
  simp -implicitDefEqProofs only [go_sem, seval]
  have hM1 : MsgAt 37 (fun k => k < w.heap.size) (w.alloc (.cells cs.toArray 37)) w.heap.size x := ⟨cs, Blk.new w _ _, kMsg.keep hx (Fx.alloc _ _ _)⟩
  have kA : Keep w (w.alloc (.cells cs.toArray 37)) := Fx.alloc _ w _
  generalize w.alloc (.cells cs.toArray 37) = w1 at *
  obtain ⟨b0, hb0⟩ : ∃ b0, b0 = w.heap.size := ⟨_, rfl⟩
  rw [← hb0] at hM1 ⊢
  refine (falive_calls w1).mono ?_
  rintro v w2 ⟨rfl, k2⟩
  have hM2 := hM1.keep k2
  have kk2 := kA.tr k2
  obtain ⟨cs2, ld2, hr2⟩ := msg_load hM2
  simp -implicitDefEqProofs only [go_sem, seval, ld2]
  refine (greatMsg_calls hr2).mono ?_
  rintro v w3 ⟨⟨q, rfl⟩, k3⟩
  have hM3 := hM2.keep k3
  have kk3 := kk2.tr k3
  have s3 := kk3.size
  cases q with
  | true =>
    simp -implicitDefEqProofs only [go_sem, seval]
    exact ⟨trivial, kk3⟩
  | false =>
  obtain ⟨cs3, ld3, hr3⟩ := msg_load hM3
  have hRm := rmsg_of hr3
  simp -implicitDefEqProofs only [go_sem, seval, ld3]
  refine (refPutMsg_calls (kMsg.mono hr3 fun k hk _ => hk)).mono ?_
  rintro v w4 ⟨hv, k4⟩
  have hM4 := hM3.keep k4
  have kk4 := kk3.tr k4
  obtain ⟨cs4, ld4, hr4⟩ := msg_load hM4
  have z62 : ((62 : Int) != 0) = true := rfl
  have z72 : ((72 : Int) != 0) = true := rfl
  have z00 : ((0 : Int) != 0) = false := rfl
  have zN : (((0 : Nat) : Int) == 0) = true := rfl
  rcases hv with ⟨hno, rfl⟩ | ⟨hok, v1, l, hf, rfl, ho⟩
  · simp -implicitDefEqProofs only [go_sem, seval, ld4]
    refine (encode_calls (kMsg.mono hr4 fun k hk _ => hk) (fun h => put_bs hRm h)).mono ?_
    rintro v w5 ⟨hv5, k5⟩
    rcases hv5 with ⟨_, rfl⟩ | ⟨h, _⟩ | ⟨h, _⟩
    rotate_left
    · exact absurd h hno
    · exact absurd h hno
    simp -implicitDefEqProofs only [go_sem, seval, z62, zN]
    exact ⟨trivial, kk4.tr k5⟩
  · rw [← put_bytes hRm hf hok] at ho
    simp -implicitDefEqProofs only [go_sem, seval, ld4]
    refine (encode_calls (kMsg.mono hr4 fun k hk _ => hk) (fun h => put_bs hRm h)).mono ?_
    rintro v w5 ⟨hv5, k5⟩
    have ho := ho.fx k5 (fun _ _ h => h)
    rcases hv5 with ⟨h, _⟩ | ⟨_, hl, rfl⟩ | ⟨_, hl, u1, rfl, ho5⟩
    · exact absurd hok h
    · generalize (putMsg x).2.b = m at *
      obtain ⟨A, c, rfl, hc, hr⟩ := ho.slice
      have hg : (4096 : Int) < (m.length : Int) := by omega
      simp -implicitDefEqProofs only [go_sem, seval, z72, zN, hg]
      exact ⟨trivial, kk4.tr k5⟩
    · have hfl : (frameF x.kind (putMsg x).2.b).length = 8 + (vput (putMsg x).2.b.length).length + (putMsg x).2.b.length := by
        simp [frameF, headF, sum4]; omega
      generalize hbs : frameF x.kind (putMsg x).2.b = bs at *
      generalize (putMsg x).2.b = m at *
      obtain ⟨A, c, rfl, hc, hr⟩ := ho.slice
      obtain ⟨A5, c5, rfl, hc5, hr5⟩ := ho5.slice
      have eL : IntKind.u64.wrap (m.length : Int) = ((m.length : Nat) : Int) := u64_nat (by omega) (by omega)
      simp -implicitDefEqProofs only [go_sem, seval, z00, eL]
      refine (refPut_calls m.length (show m.length < 18446744073709551616 by omega) w5).mono ?_
      rintro v w6 ⟨hu, k6⟩
      have hvl : (vput m.length).length ≤ 10 := vput_u64 (n := m.length) (by omega)
      obtain ⟨A6, c6, rfl, hc6, hr6⟩ := hu.slice
      have e1 : IntKind.i64.wrap (8 + ((vput m.length).length : Int)) = ((8 + (vput m.length).length : Nat) : Int) := by rw [i64_nat (by omega) (by omega)]; omega
      have e2 : IntKind.i64.wrap (((8 + (vput m.length).length : Nat) : Int) + (m.length : Int)) = (bs.length : Int) := by rw [i64_nat (by omega) (by omega)]; omega
      have e3 : ((bs.length : Int) == (bs.length : Int)) = true := beq_self_eq_true _
      simp -implicitDefEqProofs only [go_sem, seval, e1, e2, e3]
      exact ⟨trivial, (kk4.tr k5).tr k6⟩
end Go.Proofs.YtnlibeaainbipaaGreat.F
