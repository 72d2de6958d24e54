/- The document's own reading of messages' bytes: it takes what the plain reading takes. Conditions: its box holds what is left; what is left lies in blocks that nobody writes. -/
import Derived.Test.YtnlibeaainbipaaGreatGthings
import Derived.Test.YtnlibeaainbipaaGreatGkind
import Derived.Test.YtnlibeaainbipaaGreatMfnq
namespace Go.Proofs.YtnlibeaainbipaaGreat.F
open Go.RowKit Go.Proofs.YtnlibeaainbipaaGreat.M Go.Proofs.YtnlibeaainbipaaGreat.V
set_option linter.unusedSimpArgs false
set_option linter.unusedVariables false
set_option maxRecDepth 20000

theorem rnum_bad {most : Int} {s : RS} (h : (rnum most s).2.why ≠ 0) : (rnum most s).1 = 0 := by
  unfold rnum at h ⊢
  split at h
  · rename_i h0
    rw [if_pos h0]
    split at h
    · rename_i h1
      rw [if_pos h1]
      split at h
      · rename_i h2; rw [if_pos h2]
      · exact absurd rfl h
    · rename_i h1; rw [if_neg h1]
  · rename_i h0; rw [if_neg h0]

section
variable {U : Nat → Prop} {w : World} {g : Nat} {s : RS}
theorem refNum_calls (most : Int) (hU : ¬ U g) (h : RdS 129 U w g s) :
    callK Tryz.prog 56 #[.pointer (some (At g 0)), .int .u64 most] w fun v w' => v = .int .u64 (rnum most s).1 ∧ RdS 129 U w' g (rnum most s).2 ∧ Fx (only g) w w' := by
  refine callK_of Tryz.func56 c56 r56 (by exact Nat.le_of_ble_eq_true rfl) ?_
  rw [m56]
  obtain ⟨A, c, hb, hlc, hcm, he⟩ := h
  have hcm' : c ≤ 9223372036854775807 := by simp only [maxLen] at hcm; omega
  have off : ∀ k, U k → ¬ only g k := fun k hk e => hU (e ▸ hk)
  by_cases hw : s.why = 0
  · have z : (s.why != 0) = false := by rw [hw]; rfl
    simp -implicitDefEqProofs only [go_sem, seval, hb.cell, z]
    refine (refGet_calls he.rd he.bs (by omega) hlc).mono ?_
    rintro v w' ⟨rfl, k0⟩
    have hb := k0.blk hb (fun x => x)
    have he := he.keep k0
    have kf := k0.fx (only g)
    by_cases h0 : (vget s.b).2.2 = 0
    · have z1 : ((vget s.b).2.2 == 0) = true := by rw [beq_iff_eq]; exact h0
      obtain ⟨u0, u1⟩ := vget_used he.bs h0
      by_cases hm : most < (vget s.b).1
      · have hr : rnum most s = (0, ⟨s.b, 62⟩) := by simp [rnum, hw, h0, hm]
        have z2 : ((62 : Int) != 0) = true := rfl
        simp -implicitDefEqProofs only [go_sem, seval, getV, z1, hm, z2, hb.cell, hb.frozen]
        rw [hr]
        exact ⟨rfl, ⟨A, c, hb.set 1 _, hlc, hcm, he.fx (Fx.set (m := only g) _ _ _ rfl) off⟩, kf.tr (Fx.set _ _ _ rfl)⟩
      · have hr : rnum most s = ((vget s.b).1, ⟨s.b.drop (vget s.b).2.1.toNat, 0⟩) := by simp [rnum, hw, h0, hm]
        have z2 : ((vget s.b).2.2 != 0) = false := by rw [h0]; rfl
        have u2 : (vget s.b).2.1 ≤ (s.b.length : Int) := u1
        have u4 : s.b.length ≤ c := hlc
        simp -implicitDefEqProofs only [go_sem, seval, getV, z1, hm, z2, hb.cell, hb.frozen, u0, u2, u4]
        rw [hr]
        have hb2 := hb.set 0 (.slice (cutA A (vget s.b).2.1.toNat c 1) (s.b.length - (vget s.b).2.1.toNat) (c - (vget s.b).2.1.toNat))
        refine ⟨rfl, ⟨cutA A (vget s.b).2.1.toNat c 1, c - (vget s.b).2.1.toNat, ?_, by simp; omega, by omega, (he.cut _ c hlc).fx (Fx.set (m := only g) _ _ _ rfl) off⟩, kf.tr (Fx.set _ _ _ rfl)⟩
        rw [hw] at hb2
        simpa using hb2
    · have hr : rnum most s = (0, ⟨s.b, (vget s.b).2.2⟩) := by simp [rnum, hw, h0]
      have z1 : ((vget s.b).2.2 == 0) = false := by rw [beq_eq_false_iff_ne]; exact h0
      have z2 : ((vget s.b).2.2 != 0) = true := by rw [bne_iff_ne]; exact h0
      simp -implicitDefEqProofs only [go_sem, seval, getV, z1, z2, hb.cell, hb.frozen]
      rw [hr]
      exact ⟨rfl, ⟨A, c, hb.set 1 _, hlc, hcm, he.fx (Fx.set (m := only g) _ _ _ rfl) off⟩, kf.tr (Fx.set _ _ _ rfl)⟩
  · have hr : rnum most s = (0, s) := by simp [rnum, hw]
    have z : (s.why != 0) = true := by rw [bne_iff_ne]; exact hw
    simp -implicitDefEqProofs only [go_sem, seval, hb.cell, z]
    rw [hr]
    exact ⟨rfl, ⟨A, c, hb, hlc, hcm, he⟩, Fx.refl _ _⟩

theorem refWhole_calls (low high : Int) (hU : ¬ U g) (h : RdS 129 U w g s) :
    callK Tryz.prog 62 #[.pointer (some (At g 0)), .int .i64 low, .int .i64 high] w fun v w' => v = .int .i64 (rwhole low high s).1 ∧ RdS 129 U w' g (rwhole low high s).2 ∧ Fx (only g) w w' := by
  refine callK_of Tryz.func62 c62 r62 (by exact Nat.le_of_ble_eq_true rfl) ?_
  rw [m62]
  obtain ⟨A, c, hb, hlc, hcm, he⟩ := h
  have hcm' : c ≤ 9223372036854775807 := by simp only [maxLen] at hcm; omega
  have off : ∀ k, U k → ¬ only g k := fun k hk e => hU (e ▸ hk)
  by_cases hw : s.why = 0
  · have z : (s.why != 0) = false := by rw [hw]; rfl
    simp -implicitDefEqProofs only [go_sem, seval, hb.cell, z]
    refine (refGetInt_calls he.rd he.bs (by omega) hlc).mono ?_
    rintro v w' ⟨rfl, k0⟩
    have hb := k0.blk hb (fun x => x)
    have he := he.keep k0
    have kf := k0.fx (only g)
    by_cases h0 : (vget s.b).2.2 = 0
    · have z1 : ((vget s.b).2.2 == 0) = true := by rw [beq_iff_eq]; exact h0
      obtain ⟨u0, u1⟩ := vget_used he.bs h0
      have u2 : (vget s.b).2.1 ≤ (s.b.length : Int) := u1
      have u4 : s.b.length ≤ c := hlc
      by_cases hm : zag (vget s.b).1 < low ∨ high < zag (vget s.b).1
      · have hr : rwhole low high s = (0, ⟨s.b, 62⟩) := by simp [rwhole, hw, h0, hm]
        have z2 : ((62 : Int) != 0) = true := rfl
        by_cases hm1 : zag (vget s.b).1 < low
        case' pos => simp -implicitDefEqProofs only [go_sem, seval, getIV, z1, hm1, z2, hb.cell, hb.frozen]
        case' neg =>
          have hm2 : high < zag (vget s.b).1 := by omega
          simp -implicitDefEqProofs only [go_sem, seval, getIV, z1, hm1, hm2, z2, hb.cell, hb.frozen]
        all_goals
          rw [hr]
          exact ⟨rfl, ⟨A, c, hb.set 1 _, hlc, hcm, he.fx (Fx.set (m := only g) _ _ _ rfl) off⟩, kf.tr (Fx.set _ _ _ rfl)⟩
      · have hr : rwhole low high s = (zag (vget s.b).1, ⟨s.b.drop (vget s.b).2.1.toNat, 0⟩) := by simp [rwhole, hw, h0, hm]
        have z2 : ((vget s.b).2.2 != 0) = false := by rw [h0]; rfl
        have hm1 : ¬ zag (vget s.b).1 < low := by omega
        have hm2 : ¬ high < zag (vget s.b).1 := by omega
        simp -implicitDefEqProofs only [go_sem, seval, getIV, z1, hm1, hm2, z2, hb.cell, hb.frozen, u0, u2, u4]
        rw [hr]
        have hb2 := hb.set 0 (.slice (cutA A (vget s.b).2.1.toNat c 1) (s.b.length - (vget s.b).2.1.toNat) (c - (vget s.b).2.1.toNat))
        refine ⟨rfl, ⟨cutA A (vget s.b).2.1.toNat c 1, c - (vget s.b).2.1.toNat, ?_, by simp; omega, by omega, (he.cut _ c hlc).fx (Fx.set (m := only g) _ _ _ rfl) off⟩, kf.tr (Fx.set _ _ _ rfl)⟩
        rw [hw] at hb2
        simpa using hb2
    · have hr : rwhole low high s = (0, ⟨s.b, (vget s.b).2.2⟩) := by simp [rwhole, hw, h0]
      have z1 : ((vget s.b).2.2 == 0) = false := by rw [beq_eq_false_iff_ne]; exact h0
      have z2 : ((vget s.b).2.2 != 0) = true := by rw [bne_iff_ne]; exact h0
      simp -implicitDefEqProofs only [go_sem, seval, getIV, z1, z2, hb.cell, hb.frozen]
      rw [hr]
      exact ⟨rfl, ⟨A, c, hb.set 1 _, hlc, hcm, he.fx (Fx.set (m := only g) _ _ _ rfl) off⟩, kf.tr (Fx.set _ _ _ rfl)⟩
  · have hr : rwhole low high s = (0, s) := by simp [rwhole, hw]
    have z : (s.why != 0) = true := by rw [bne_iff_ne]; exact hw
    simp -implicitDefEqProofs only [go_sem, seval, hb.cell, z]
    rw [hr]
    exact ⟨rfl, ⟨A, c, hb, hlc, hcm, he⟩, Fx.refl _ _⟩

theorem refText_calls (hU : ¬ U g) (h : RdS 129 U w g s) :
    callK Tryz.prog 57 #[.pointer (some (At g 0))] w fun v w' => v = .string (rtext s).1 ∧ (rtext s).1.size ≤ maxLen ∧ RdS 129 U w' g (rtext s).2 ∧ Fx (only g) w w' := by
  refine callK_of Tryz.func57 c57 r57 (by exact Nat.le_of_ble_eq_true rfl) ?_
  rw [m57]
  simp -implicitDefEqProofs only [go_sem, seval]
  refine (refNum_calls 4096 hU h).mono ?_
  rintro v w1 ⟨rfl, h1, f1⟩
  have r := rnum_range 4096 (by decide) s h.bs
  have bad := rnum_bad (most := 4096) (s := s)
  have off : ∀ k, U k → ¬ only g k := fun k hk e => hU (e ▸ hk)
  unfold rtext rcut
  generalize rnum 4096 s = q at *
  obtain ⟨n, s1⟩ := q
  simp only at r h1 bad ⊢
  obtain ⟨A, c, hb, hlc, hcm, he⟩ := h1
  have hcm' : c ≤ 9223372036854775807 := by simp only [maxLen] at hcm; omega
  have e1 : IntKind.i64.wrap n = n := i64_nat (by omega) (by omega)
  by_cases hw : s1.why = 0
  · have z : (s1.why == 0) = true := by rw [beq_iff_eq]; exact hw
    by_cases hlt : (s1.b.length : Int) < n
    · have z2 : ((40 : Int) != 0) = true := rfl
      have hb2 := hb.set 1 (.int .i64 40)
      simp -implicitDefEqProofs only [go_sem, seval, hb.cell, hb.frozen, e1, z, hlt]
      simp only [List.setIfInBounds_toArray, List.set_cons_succ, List.set_cons_zero] at hb2
      have f2 : Fx (only g) w1 (w1.setCell (At g 1) (.int .i64 40)) := Fx.set _ _ _ rfl
      generalize w1.setCell (At g 1) (.int .i64 40) = w2 at *
      try simp -implicitDefEqProofs only [go_sem, seval, hb2.cell, z2]
      rw [if_pos hw]
      refine ⟨rfl, by simp [strOfNums_size], ⟨A, c, hb2, hlc, hcm, he.fx f2 off⟩, f1.tr f2⟩
    · have z2 : (s1.why != 0) = false := by rw [hw]; rfl
      obtain ⟨m, rfl⟩ := Int.eq_ofNat_of_zero_le r.1
      have a1 : (m : Int) ≤ (c : Int) := by omega
      have a2' : (m : Int) ≤ (s1.b.length : Int) := by omega
      have a3 : (0 : Int) ≤ (m : Int) := by omega
      have hl : (s1.b.take m).length = m := by rw [List.length_take]; omega
      simp -implicitDefEqProofs only [go_sem, seval, hb.cell, hb.frozen, e1, z, z2, hlt, a1, a3]
      refine cv_bytesN bs8 hl (he.take m).rd ?_
      simp -implicitDefEqProofs only [go_sem, seval, hb.cell, hb.frozen, e1, z, z2, hlt, a1, a2', a3, hlc]
      have hb2 := hb.set 0 (.slice (cutA A m c 1) (s1.b.length - m) (c - m))
      refine ⟨trivial, by rw [strOfNums_size, hl]; simp only [maxLen]; omega, ⟨cutA A m c 1, c - m, ?_, by simp; omega, by omega, (he.cut m c hlc).fx (Fx.set (m := only g) _ _ _ rfl) off⟩, f1.tr (Fx.set _ _ _ rfl)⟩
      simpa using hb2
  · have z : (s1.why == 0) = false := by rw [beq_eq_false_iff_ne]; exact hw
    have z2 : (s1.why != 0) = true := by rw [bne_iff_ne]; exact hw
    have hn := bad hw
    subst hn
    have hlt : ¬ (s1.b.length : Int) < 0 := by omega
    simp -implicitDefEqProofs only [go_sem, seval, hb.cell, hb.frozen, e1, z, z2, hlt]
    refine ⟨rfl, by simp [strOfNums_size], ⟨A, c, hb, hlc, hcm, he⟩, f1⟩

theorem refEnd_calls (hU : ¬ U g) (h : RdS 129 U w g s) :
    callK Tryz.prog 63 #[.pointer (some (At g 0))] w fun v w' => v = .int .i64 (rend s).why ∧ RdS 129 U w' g (rend s) ∧ Fx (only g) w w' := by
  refine callK_of Tryz.func63 c63 r63 (by exact Nat.le_of_ble_eq_true rfl) ?_
  rw [m63]
  obtain ⟨A, c, hb, hlc, hcm, he⟩ := h
  have off : ∀ k, U k → ¬ only g k := fun k hk e => hU (e ▸ hk)
  by_cases hw : s.why = 0
  · have z : (s.why == 0) = true := by rw [beq_iff_eq]; exact hw
    by_cases hl : s.b = []
    · have z1 : ¬ (0 : Int) < (s.b.length : Int) := by rw [hl]; simp
      have hr : rend s = s := by simp [rend, hl]
      simp -implicitDefEqProofs only [go_sem, seval, hb.cell, z, z1]
      rw [hr]
      exact ⟨rfl, ⟨A, c, hb, hlc, hcm, he⟩, Fx.refl _ _⟩
    · have z1 : (0 : Int) < (s.b.length : Int) := by
        have := List.length_pos_iff.2 hl
        omega
      have hb2 := hb.set 1 (.int .i64 60)
      simp -implicitDefEqProofs only [go_sem, seval, hb.cell, hb.frozen, z, z1]
      simp only [List.setIfInBounds_toArray, List.set_cons_succ, List.set_cons_zero] at hb2
      have f2 : Fx (only g) w (w.setCell (At g 1) (.int .i64 60)) := Fx.set _ _ _ rfl
      generalize w.setCell (At g 1) (.int .i64 60) = w2 at *
      have hr : rend s = ⟨s.b, 60⟩ := by simp [rend, hl, hw]
      rw [hr]
      exact ⟨rfl, ⟨A, c, hb2, hlc, hcm, he.fx f2 off⟩, f2⟩
  · have z : (s.why == 0) = false := by rw [beq_eq_false_iff_ne]; exact hw
    have hr : rend s = s := by simp [rend, hw]
    simp -implicitDefEqProofs only [go_sem, seval, hb.cell, z]
    rw [hr]
    exact ⟨rfl, ⟨A, c, hb, hlc, hcm, he⟩, Fx.refl _ _⟩
end
end Go.Proofs.YtnlibeaainbipaaGreat.F
