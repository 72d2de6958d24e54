/- The law's example of a frame. Conditions: none. -/
import Derived.Test.YtnlibeaainbipaaFrdr
namespace Go.Proofs.Ytnlibeaainbipaa.M
open Go.RowKit
theorem bin_peq {P : Program} {t e : TypeId} (ht : P.underlying t = some (.pointer e)) (a : Addr) (x y : Operand) {w : World} {k : Value → World → Prop} (hk : k (.bool false) w) : binK P .eql t x y (.pointer (some a)) (.pointer none) w k := by
  show runK P _ w k
  refine runK_of (v := .bool false) (w' := w) ?_ hk
  have h1 : (Op.equal t (.pointer (some a)) (.pointer none)).run P w = .ok false w := by
    have : ∀ d, (Op.equalIn (d + 1) t (.pointer (some a)) (.pointer none)).run P w = .ok false w := by
      intro d
      unfold Op.equalIn
      rw [Sem.run_bind, run_underlying ht]
      rfl
    exact this 9999
  show (do eqGuard .eql t x y (.pointer (some a)) (.pointer none); (do pure (.bool (← Op.equal t (.pointer (some a)) (.pointer none))) : Sem Value) : Sem Value).run P w = _
  rw [Sem.run_bind]
  show (Result.ok () w).andThen _ = _
  simp only [Result.andThen]
  rw [Sem.run_bind, h1]
  rfl
end Go.Proofs.Ytnlibeaainbipaa.M
namespace Go.Proofs.Ytnlibeaainbipaa.F
open Go.RowKit Go.Proofs.Ytnlibeaainbipaa.M Go.Proofs.Ytnlibeaainbipaa.V
set_option linter.unusedSimpArgs false
set_option linter.unusedVariables false
set_option maxRecDepth 20000
def ping1 : Msg := { zMsg 7 with n := 1 }
theorem ping1_rep {U : Nat → Prop} {w : World} : kMsg.rep U w ping1 [.int .u8 7, .int .u32 0, .int .u32 0, .int .u64 0, .int .u8 0, .int .u32 1, .string ⟨#[]⟩, .string ⟨#[]⟩, .int .u8 0, .int .u8 0, .bool false, .int .u8 0, .int .u16 0, .slice none 0 0, .int .u32 0, .slice none 0 0, .int .u16 0, .int .u16 0, .slice none 0 0, .slice none 0 0, .slice none 0 0, .int .u32 0, .int .u32 0, .slice none 0 0, .int .u64 0, .slice none 0 0, .slice none 0 0, .slice none 0 0] := lnN.put (y := (1 : Int)) (vs := [.int .u32 1]) (zMsg_rep (k := 7) (by decide) (by decide)) ⟨rfl, rfl⟩
theorem ping1_put : putMsg ping1 = (zMsg 7, ⟨[1], false⟩) := by kernel_rfl
theorem ping1_ok : PutOk ping1 := by unfold PutOk; rw [ping1_put]; exact ⟨rfl, rfl⟩
def pingF : List Int := frameF 7 [1]
theorem pingF_next : nextF pingF = (ping1, 0, [], 0) := by kernel_rfl
theorem pingF_len : pingF.length = 10 := by kernel_rfl
theorem pingF_bs : Bs pingF := (headF_bs (by decide) (by decide) (fun x hx => by simp at hx; omega)).append (sum4_bs _)
theorem near_next : nextF [76] = (zMsg 0, 40, [76], 0) := by kernel_rfl
theorem magic_next : nextF [76, 69] = (zMsg 0, 70, [], 70) := by kernel_rfl
theorem falive_calls (w : World) : callK Try.prog 4 #[] w fun v w' => v = .bool true ∧ Keep w w' := by
  refine callK_of Try.func4 c4 r4 (by exact Nat.le_of_ble_eq_true rfl) ?_
  rw [m4]
  simp -implicitDefEqProofs only [go_sem, seval]
  refine (encode_calls (ping1_rep (w := w)) (fun _ => by rw [ping1_put]; intro x hx; simp at hx; omega)).mono ?_
  rintro v w1 ⟨hv, k1⟩
  rcases hv with ⟨hn, _⟩ | ⟨_, hl, _⟩ | ⟨_, _, v1, rfl, ho⟩
  · exact absurd ping1_ok hn
  · rw [ping1_put] at hl; simp at hl
  rw [ping1_put] at ho
  have ho : OwnI 5 .u8 w.heap.size w1 v1 pingF := ho
  obtain ⟨A, c, rfl, hc, hr⟩ := ho.slice
  simp -implicitDefEqProofs only [go_sem, seval]
  refine (rnew_calls w1).mono ?_
  rintro v w2 ⟨rfl, hR2, k2, s2⟩
  have z1 : ((0 : Int) != 0) = false := rfl
  have z2 : ((pingF.length : Int) != 10) = false := by rw [pingF_len]; rfl
  simp -implicitDefEqProofs only [go_sem, seval, z1, z2]
  refine bin_peq Try.underlying24 _ _ _ ?_
  simp -implicitDefEqProofs only [go_sem, seval]
  have kk2 := k1.tr k2
  have s1 := k1.size
  obtain ⟨rb, hrb⟩ : ∃ rb, rb = w1.heap.size + 1 := ⟨_, rfl⟩
  obtain ⟨g, hg⟩ : ∃ g, g = w1.heap.size := ⟨_, rfl⟩
  rw [← hrb, ← hg] at hR2
  rw [← hrb]
  have hr2 := hr.fx k2 (fun _ _ h => h)
  refine (feed_calls (hR2 w2.heap.size) (Nat.le_refl _) hr2 pingF_bs (by rw [pingF_len]; decide)).mono ?_
  rintro v w3 ⟨rfl, hR3, f3⟩
  rw [if_pos rfl, List.nil_append] at hR3
  have K3 : Keep w w3 := kk2.new f3 (fun k e hk => by rcases e with e | e <;> first | omega | (have := ownB_of (hR2 w2.heap.size) (Fx.refl (fun _ => False) _) (fun h => h) e; omega))
  have s3 := f3.size
  simp -implicitDefEqProofs only [go_sem, seval]
  refine (next_calls hR3 s3 (by rw [pingF_len]; decide)).mono ?_
  have e3 : stepF pingF 0 = (ping1, 0, [], 0) := by unfold stepF; rw [if_pos rfl]; exact pingF_next
  rw [e3]
  rintro v w4 ⟨cs4, rfl, hm4, hR4, f4⟩
  have K4 : Keep w w4 := K3.new f4 (fun k e hk => by rcases e with e | e <;> omega)
  have s4 := f4.size
  obtain ⟨w5, S5, hM5, k5, s5⟩ := store_msg hm4
  have hR5 := hR4.fx k5 (fun h => h) (fun h => h) (fun _ _ _ h => h)
  simp -implicitDefEqProofs only [go_sem, seval, S5]
  refine bsl_one ie8 ?_
  have kB : Keep w5 (w5.alloc (.cells #[.int .u8 76] 5)) := Fx.alloc _ _ _
  have rB : RdI (w5.alloc (.cells #[.int .u8 76] 5)) .u8 (some (At w5.heap.size 0)) [76] := RdI.new w5 5 .u8 [76]
  have hM6 := hM5.keep kB
  have hR6 := hR5.fx kB (fun h => h) (fun h => h) (fun _ _ _ h => h)
  have sB := kB.size
  generalize w5.alloc (.cells #[.int .u8 76] 5) = w6 at *
  have K6 : Keep w w6 := (K4.tr k5).tr kB
  simp -implicitDefEqProofs only [go_sem, seval]
  refine (feed_calls (d := [76]) hR6 (by omega) rB (fun x hx => by simp at hx; omega) (by decide)).mono ?_
  rintro v w7 ⟨rfl, hR7, f7⟩
  rw [if_pos rfl] at hR7
  obtain ⟨bx, hbx⟩ : ∃ bx, bx = w4.heap.size := ⟨_, rfl⟩
  rw [← hbx] at hM6 ⊢
  have nb : ∀ {wz : World}, Keep w4 wz → ∀ k, OwnB wz rb k → w2.heap.size ≤ k ∧ k < bx := fun kz k e => by
    have := ownB_of hR4 kz (fun h => h) e
    omega
  obtain ⟨csb, hB6, hrep6⟩ := id hM6
  have c0 : csb[0]? = some (.int .u8 7) := one_at (lnKind.get hrep6).1
  have c5 : csb[5]? = some (.int .u32 1) := one_at (lnN.get hrep6).1
  have k46 : Keep w4 w6 := k5.tr kB
  have nrb : rb < bx := by omega
  have ngb : g < bx := by omega
  have K7 : Keep w w7 := K6.new f7 (fun k e hk => by rcases e with e | e <;> first | omega | (have := nb k46 k e; omega))
  have hB7 := f7.blk hB6 (fun e => by rcases e with e | e <;> first | omega | (have := nb k46 _ e; omega))
  have s7 := f7.size
  simp -implicitDefEqProofs only [go_sem, seval]
  refine (next_calls hR7 (by omega) (by decide)).mono ?_
  have e7 : stepF ([] ++ [76]) 0 = (zMsg 0, 40, [76], 0) := by unfold stepF; rw [if_pos rfl]; exact near_next
  rw [e7]
  rintro v w8 ⟨cs8, rfl, hm8, hR8, f8⟩
  have K8 : Keep w w8 := K7.new f8 (fun k e hk => by rcases e with e | e <;> omega)
  have hB8 := f8.blk hB7 (fun e => by rcases e with e | e <;> omega)
  have s8 := f8.size
  obtain ⟨w9, S9, hM9, k9, s9⟩ := store_msg hm8
  have hR9 := hR8.fx k9 (fun h => h) (fun h => h) (fun _ _ _ h => h)
  have hB9 := k9.blk hB8 (fun h => h)
  simp -implicitDefEqProofs only [go_sem, seval, S9]
  refine bsl_one ie8 ?_
  have kC : Keep w9 (w9.alloc (.cells #[.int .u8 69] 5)) := Fx.alloc _ _ _
  have rC : RdI (w9.alloc (.cells #[.int .u8 69] 5)) .u8 (some (At w9.heap.size 0)) [69] := RdI.new w9 5 .u8 [69]
  have hRa := hR9.fx kC (fun h => h) (fun h => h) (fun _ _ _ h => h)
  have hBa := kC.blk hB9 (fun h => h)
  have sC := kC.size
  generalize w9.alloc (.cells #[.int .u8 69] 5) = wa at *
  have Ka : Keep w wa := (K8.tr k9).tr kC
  simp -implicitDefEqProofs only [go_sem, seval]
  refine (feed_calls (d := [69]) hRa (by omega) rC (fun x hx => by simp at hx; omega) (by decide)).mono ?_
  rintro v wb ⟨rfl, hRb, fb⟩
  rw [if_pos rfl] at hRb
  have nbb : ∀ k, OwnB wa rb k → w2.heap.size ≤ k ∧ k ≠ bx := fun k e => by
    obtain ⟨v7, hb7, ho7, _⟩ := hR7
    refine ⟨(ownB_of hR8 (k9.tr kC) (fun h => h) e).1, fun h => ?_⟩
    obtain ⟨v8, hb8, ho8, _⟩ := hR8
    obtain ⟨v', y, s, hb', hv⟩ := e
    have e1 := Option.some.inj (Eq.trans (Eq.symm ((k9.tr kC).blk hb8 (fun h => h))) hb')
    have e2 : v8 = v' := by injection e1 with e1; injection e1 with e1; injection e1
    subst e2
    subst h
    exact ho8.ne hB8 (by decide) hv
  have Kb : Keep w wb := Ka.new fb (fun k e hk => by rcases e with e | e <;> first | omega | (have := nbb k e; omega))
  have hBb := fb.blk hBa (fun e => by rcases e with e | e <;> first | omega | exact (nbb _ e).2 rfl)
  have sb := fb.size
  simp -implicitDefEqProofs only [go_sem, seval]
  refine (next_calls hRb (by omega) (by decide)).mono ?_
  have eb : stepF ([76] ++ [69]) 0 = (zMsg 0, 70, [], 70) := by unfold stepF; rw [if_pos rfl]; exact magic_next
  rw [eb]
  rintro v wc ⟨csc, rfl, hmc, hRc, fc⟩
  have Kc : Keep w wc := Kb.new fc (fun k e hk => by rcases e with e | e <;> omega)
  have hBc := fc.blk hBb (fun e => by rcases e with e | e <;> omega)
  obtain ⟨wd, Sd, hMd, kd, sd⟩ := store_msg hmc
  have hBd := kd.blk hBc (fun h => h)
  have c0' : wd.cell? (At bx 0) = some (.int .u8 7) := by rw [hBd.cell]; simpa using c0
  have c5' : wd.cell? (At bx 5) = some (.int .u32 1) := by rw [hBd.cell]; simpa using c5
  have z0 : ((0 : Int) == 0) = true := rfl
  have z7 : ((7 : Int) == 7) = true := rfl
  have z11 : ((1 : Int) == 1) = true := rfl
  have z40 : ((40 : Int) == 40) = true := rfl
  have z70 : ((70 : Int) == 70) = true := rfl
  simp -implicitDefEqProofs only [go_sem, seval, Sd, z0, z7, z11, z40, z70, c0', c5']
  exact ⟨trivial, Kc.tr kd⟩
end Go.Proofs.Ytnlibeaainbipaa.F
