/- What the document's own Get reads is what varint.Get reads. Conditions: the slice's places hold the bytes. -/
import Derived.Test.YtnoeeiaffnbhcaaMrefv
import Derived.Test.YtnoeeiaffnbhcaaVchain
namespace Go.Proofs.Ytnoeeiaffnbhcaa.F
open Go.RowKit Go.Proofs.Ytnoeeiaffnbhcaa.M Go.Proofs.Ytnoeeiaffnbhcaa.V
set_option linter.unusedSimpArgs false
set_option linter.unusedVariables false
set_option maxRecDepth 20000

theorem bs8 : BS Try.prog 33 5 9 := ⟨Try.underlying33, Try.underlying5, Try.underlying9⟩

theorem val_drop_le : ∀ (m : Nat) (t : List Int), val (t.drop m) ≤ val t
  | 0, t => Nat.le_refl _
  | m + 1, [] => by simp
  | m + 1, c :: r => by
    have := val_drop_le m r
    simp only [List.drop_succ_cons, val]
    omega
theorem val_drop_at {t : List Int} {m : Nat} (h : m < t.length) : val (t.drop m) = (t[m] % 128).toNat + 128 * val (t.drop (m + 1)) := by
  rw [List.drop_eq_getElem_cons h]; rfl

theorem refGet_calls {b : List Int} {A : Option Addr} {c : Nat} {w : World} (hr : RdI w .u8 A b) (hb : Bs b) (hl : b.length ≤ 9223372036854775807) (hc : b.length ≤ c) : callK Try.prog 79 #[.slice A b.length c] w fun v w' => v = getV (vget b) ∧ Keep w w' := by
  refine callK_of Try.func79 c79 r79 (by exact Nat.le_of_ble_eq_true rfl) ?_
  rw [m79]
  simp -implicitDefEqProofs only [go_sem, ↓reduceIte, Nat.reduceEqDiff, Int.reduceLT, Nat.reduceLT, Int.reduceToNat, Int.reducePow, Nat.reduceAdd, Int.reduceEq, Nat.reduceLeDiff, Int.reduceLE]
  refine loop_intro (fun k f w' => ∃ (i : Nat), k = b.length - i ∧ i ≤ b.length ∧ i ≤ 10 ∧ High (b.take i) ∧ f 0 = .slice A b.length c ∧ f 5 = .int .i64 i ∧ w' = w) b.length ⟨0, rfl, by omega, by omega, by intro x hx; simp at hx, by simp -implicitDefEqProofs only [go_sem, ↓reduceIte, Nat.reduceEqDiff, Int.reduceLT, Nat.reduceLT, Int.reduceToNat, Int.reducePow, Nat.reduceAdd, Int.reduceEq, Nat.reduceLeDiff, Int.reduceLE], by simp -implicitDefEqProofs only [go_sem, ↓reduceIte, Nat.reduceEqDiff, Int.reduceLT, Nat.reduceLT, Int.reduceToNat, Int.reducePow, Nat.reduceAdd, Int.reduceEq, Nat.reduceLeDiff, Int.reduceLE]; rfl, rfl⟩ ?_
  rintro k f w1 ⟨i, rfl, hi, hi10, hH, h0, h5, rfl⟩
  have hti : (b.take i).length = i := by rw [List.length_take]; omega
  by_cases hlt : i < b.length
  · have i1 : (i : Int) < (b.length : Int) := by omega
    have i0 : (0 : Int) ≤ (i : Int) := by omega
    by_cases h10 : i < 10
    · have q10 : (i : Int) < 10 := by omega
      obtain ⟨ad, rfl, hcell⟩ := hr.at hlt
      obtain ⟨c0, c1⟩ := hb b[i] (List.getElem_mem hlt)
      have hsplit : b = b.take i ++ b[i] :: b.drop (i + 1) := by rw [← List.drop_eq_getElem_cons hlt, List.take_append_drop]
      by_cases h128 : 128 ≤ b[i]
      · have e1 : IntKind.i64.wrap ((i : Int) + 1) = ((i + 1 : Nat) : Int) := i64_nat (by omega) (by omega)
        simp -implicitDefEqProofs only [go_sem, ↓reduceIte, Nat.reduceEqDiff, Int.reduceLT, Nat.reduceLT, Int.reduceToNat, Int.reducePow, Nat.reduceAdd, Int.reduceEq, Nat.reduceLeDiff, Int.reduceLE, h0, h5, i0, i1, q10, hcell, h128, e1]
        refine ⟨b.length - (i + 1), by omega, i + 1, rfl, by omega, by omega, ?_, by simp -implicitDefEqProofs only [go_sem, ↓reduceIte, Nat.reduceEqDiff, Int.reduceLT, Nat.reduceLT, Int.reduceToNat, Int.reducePow, Nat.reduceAdd, Int.reduceEq, Nat.reduceLeDiff, Int.reduceLE, h0], by simp -implicitDefEqProofs only [go_sem, ↓reduceIte, Nat.reduceEqDiff, Int.reduceLT, Nat.reduceLT, Int.reduceToNat, Int.reducePow, Nat.reduceAdd, Int.reduceEq, Nat.reduceLeDiff, Int.reduceLE], rfl⟩
        intro x hx
        rw [List.take_succ_eq_append_getElem hlt] at hx
        rcases List.mem_append.1 hx with hx | hx
        · exact hH x hx
        · simp only [List.mem_singleton] at hx
          subst hx
          exact ⟨h128, c1⟩
      · have z10 : ((i : Int) == 10) = false := by rw [beq_eq_false_iff_ne]; omega
        have zl : ((i : Int) == (b.length : Int)) = false := by rw [beq_eq_false_iff_ne]; omega
        have hch := chain_of (t := b.take i) (d := b[i]) hH c0 (by omega)
        generalize hx : b[i] = x at *
        by_cases h9 : i = 9 ∧ 1 < x
        · obtain ⟨h9i, h1⟩ := h9
          have z9 : ((i : Int) == 9) = true := by rw [beq_iff_eq]; omega
          have l9 : (9 : Int) < (b.length : Int) := by omega
          have hcell9 : w1.cell? (ad.add 9) = some (.int .u8 x) := by rw [← h9i]; exact hcell
          have hv : vget b = (0, 0, 41) := by rw [hsplit]; exact vgetFrom_nine (b.take i) 0 0 x _ hH (by omega) h1
          simp only [go_sem] at hcell9
          simp -implicitDefEqProofs only [go_sem, ↓reduceIte, Nat.reduceEqDiff, Int.reduceLT, Nat.reduceLT, Int.reduceToNat, Int.reducePow, Nat.reduceAdd, Int.reduceEq, Nat.reduceLeDiff, Int.reduceLE, h0, h5, i0, i1, q10, hcell, hcell9, h128, z10, z9, l9, h1, Int.reduceLE]
          rw [hv]
          exact ⟨rfl, Fx.refl _ _⟩
        · have hlen : (b.take i ++ [x]).length = i + 1 := by rw [List.length_append, hti]; rfl
          have h1' : (b.take i ++ [x]).length = 10 → last1 (b.take i ++ [x]) := fun e => last1_of (by omega)
          have hu := val_u64 (by omega) h1' hch
          have hv : vget b = _ := (congrArg vget (hsplit.trans (by rw [List.append_cons]))).trans (vget_chain hch (by omega) h1' _)
          have htk : b.take (i + 1) = b.take i ++ [x] := by rw [List.take_succ_eq_append_getElem hlt, hx]
          have e1 : IntKind.i64.wrap ((i : Int) + 1) = ((i + 1 : Nat) : Int) := i64_nat (by omega) (by omega)
          obtain ⟨q9, z9⟩ : ∃ q9, ((i : Int) == 9) = q9 := ⟨_, rfl⟩
          have start : ∀ f : Fr, f 0 = .slice (some ad) b.length c → f 5 = .int .i64 i → f 7 = .int .i64 i → f 6 = .int .u64 0 →
              ∃ m : Nat, i + 1 = m ∧ m ≤ i + 1 ∧ f 0 = .slice (some ad) b.length c ∧ f 5 = .int .i64 i ∧ f 7 = .int .i64 ((m : Int) - 1) ∧ f 6 = .int .u64 (val ((b.take (i + 1)).drop m) : Nat) ∧ w1 = w1 := by
            intro f g0 g5 g7 g6
            refine ⟨i + 1, rfl, Nat.le_refl _, g0, g5, ?_, ?_, rfl⟩
            · rw [g7]; congr 1; omega
            · rw [g6, List.drop_of_length_le (by rw [htk, hlen]; exact Nat.le_refl _)]; rfl
          cases q9
          case' false => simp -implicitDefEqProofs only [go_sem, ↓reduceIte, Nat.reduceEqDiff, Int.reduceLT, Nat.reduceLT, Int.reduceToNat, Int.reducePow, Nat.reduceAdd, Int.reduceEq, Nat.reduceLeDiff, Int.reduceLE, h0, h5, i0, i1, q10, hcell, h128, z10, z9, zl]
          case' true =>
            have l9 : (9 : Int) < (b.length : Int) := by rw [beq_iff_eq] at z9; omega
            have h1 : ¬ 1 < x := fun h => h9 ⟨by rw [beq_iff_eq] at z9; omega, h⟩
            have hcell9 : w1.cell? (ad.add 9) = some (.int .u8 x) := by
              have : i = 9 := by rw [beq_iff_eq] at z9; omega
              rw [← this]; exact hcell
            simp only [go_sem] at hcell9
            simp -implicitDefEqProofs only [go_sem, ↓reduceIte, Nat.reduceEqDiff, Int.reduceLT, Nat.reduceLT, Int.reduceToNat, Int.reducePow, Nat.reduceAdd, Int.reduceEq, Nat.reduceLeDiff, Int.reduceLE, h0, h5, i0, i1, q10, hcell, hcell9, h128, z10, z9, zl, l9, h1, Int.reduceLE]
          all_goals
            refine loop_intro (fun k f w' => ∃ m : Nat, k = m ∧ m ≤ i + 1 ∧ f 0 = .slice (some ad) b.length c ∧ f 5 = .int .i64 i ∧ f 7 = .int .i64 ((m : Int) - 1) ∧ f 6 = .int .u64 (val ((b.take (i + 1)).drop m) : Nat) ∧ w' = w1) (i + 1) (start _ (by simp -implicitDefEqProofs only [go_sem, ↓reduceIte, Nat.reduceEqDiff, Int.reduceLT, Nat.reduceLT, Int.reduceToNat, Int.reducePow, Nat.reduceAdd, Int.reduceEq, Nat.reduceLeDiff, Int.reduceLE, h0]) (by simp -implicitDefEqProofs only [go_sem, ↓reduceIte, Nat.reduceEqDiff, Int.reduceLT, Nat.reduceLT, Int.reduceToNat, Int.reducePow, Nat.reduceAdd, Int.reduceEq, Nat.reduceLeDiff, Int.reduceLE, h5]) (by simp -implicitDefEqProofs only [go_sem, ↓reduceIte, Nat.reduceEqDiff, Int.reduceLT, Nat.reduceLT, Int.reduceToNat, Int.reducePow, Nat.reduceAdd, Int.reduceEq, Nat.reduceLeDiff, Int.reduceLE, h5]) (by simp -implicitDefEqProofs only [go_sem, ↓reduceIte, Nat.reduceEqDiff, Int.reduceLT, Nat.reduceLT, Int.reduceToNat, Int.reducePow, Nat.reduceAdd, Int.reduceEq, Nat.reduceLeDiff, Int.reduceLE])) ?_
            rintro k f2 w2 ⟨m, rfl, hm, g0, g5, g7, g6, rfl⟩
            rw [htk] at g6
            cases k with
            | succ m =>
              have hm1 : m < (b.take i ++ [x]).length := by omega
              have p1 : (0 : Int) ≤ ((m + 1 : Nat) : Int) - 1 := by omega
              have p2 : ((m + 1 : Nat) : Int) - 1 < (b.length : Int) := by omega
              have pn : (((m + 1 : Nat) : Int) - 1).toNat = m := by omega
              have hmb : m < b.length := by omega
              obtain ⟨ad', e, hcm⟩ := hr.at hmb
              cases e
              have hv1 := val_drop_at hm1
              have hv2 := val_drop_le m (b.take i ++ [x])
              have hbm : (b.take i ++ [x])[m] = b[m] := by
                have : (b.take (i + 1))[m]'(by rw [htk]; exact hm1) = b[m] := List.getElem_take
                rw [← this]
                congr 1
                exact htk.symm
              rw [hbm] at hv1
              obtain ⟨d0, d1⟩ := hb b[m] (List.getElem_mem hmb)
              generalize b[m] = y at *
              generalize hV0 : val ((b.take i ++ [x]).drop m) = V0 at *
              generalize val ((b.take i ++ [x]).drop (m + 1)) = V1 at *
              have e2 : IntKind.u64.wrap ((V1 : Int) * 128) = (V1 : Int) * 128 := u64_nat (by omega) (by omega)
              have e3 : y.tmod 128 = y % 128 := Int.tmod_eq_emod_of_nonneg d0
              have e4 : IntKind.u64.wrap (y % 128) = y % 128 := u64_nat (by omega) (by omega)
              have e5 : IntKind.u64.wrap ((V1 : Int) * 128 + y % 128) = (V0 : Int) := by rw [u64_nat (by omega) (by omega)]; omega
              have e6 : IntKind.i64.wrap (((m + 1 : Nat) : Int) - 1 - 1) = (m : Int) - 1 := by rw [i64_w, w64_id (by omega) (by omega)]; omega
              simp -implicitDefEqProofs only [go_sem, ↓reduceIte, Nat.reduceEqDiff, Int.reduceLT, Nat.reduceLT, Int.reduceToNat, Int.reducePow, Nat.reduceAdd, Int.reduceEq, Nat.reduceLeDiff, Int.reduceLE, g0, g5, g7, g6, p1, p2, pn, hcm, e2, e3, e4, e5, e6]
              exact ⟨m, by omega, m, rfl, by omega, by simp -implicitDefEqProofs only [go_sem, ↓reduceIte, Nat.reduceEqDiff, Int.reduceLT, Nat.reduceLT, Int.reduceToNat, Int.reducePow, Nat.reduceAdd, Int.reduceEq, Nat.reduceLeDiff, Int.reduceLE, g0], by simp -implicitDefEqProofs only [go_sem, ↓reduceIte, Nat.reduceEqDiff, Int.reduceLT, Nat.reduceLT, Int.reduceToNat, Int.reducePow, Nat.reduceAdd, Int.reduceEq, Nat.reduceLeDiff, Int.reduceLE, g5], by simp -implicitDefEqProofs only [go_sem, ↓reduceIte, Nat.reduceEqDiff, Int.reduceLT, Nat.reduceLT, Int.reduceToNat, Int.reducePow, Nat.reduceAdd, Int.reduceEq, Nat.reduceLeDiff, Int.reduceLE], by rw [htk, hV0]; simp -implicitDefEqProofs only [go_sem, ↓reduceIte, Nat.reduceEqDiff, Int.reduceLT, Nat.reduceLT, Int.reduceToNat, Int.reducePow, Nat.reduceAdd, Int.reduceEq, Nat.reduceLeDiff, Int.reduceLE], rfl⟩
            | zero =>
              have p1 : ¬ (0 : Int) ≤ ((0 : Nat) : Int) - 1 := by omega
              have s0 : (0 : Int) ≤ ((i + 1 : Nat) : Int) := by omega
              have s1 : ((i + 1 : Nat) : Int) ≤ (c : Int) := by omega
              simp -implicitDefEqProofs only [go_sem, ↓reduceIte, Nat.reduceEqDiff, Int.reduceLT, Nat.reduceLT, Int.reduceToNat, Int.reducePow, Nat.reduceAdd, Int.reduceEq, Nat.reduceLeDiff, Int.reduceLE, g0, g5, g7, g6, p1, e1, s0, s1]
              refine seg_intro (fun w' => RdI w' .u8 (some ad) b) (by exact hr) ?_
              simp -implicitDefEqProofs only [go_sem, ↓reduceIte, Nat.reduceEqDiff, Int.reduceLT, Nat.reduceLT, Int.reduceToNat, Int.reducePow, Nat.reduceAdd, Int.reduceEq, Nat.reduceLeDiff, Int.reduceLE]
              refine hld_intro (.string (strOfNums (b.take (i + 1)))) (by exact hr) (fun w' hw' => ?_) ?_
              · simp -implicitDefEqProofs only [go_sem, ↓reduceIte, Nat.reduceEqDiff, Int.reduceLT, Nat.reduceLT, Int.reduceToNat, Int.reducePow, Nat.reduceAdd, Int.reduceEq, Nat.reduceLeDiff, Int.reduceLE]
                have := cv_bytes (P := Try.prog) (c := c) (k := fun u w'' => u = .string (strOfNums (b.take (i + 1))) ∧ w'' = w') bs8 (hw'.take (i + 1)) ⟨rfl, rfl⟩
                rw [htk, hlen] at this
                rw [htk]
                exact this
              · simp -implicitDefEqProofs only [go_sem, ↓reduceIte, Nat.reduceEqDiff, Int.reduceLT, Nat.reduceLT, Int.reduceToNat, Int.reducePow, Nat.reduceAdd, Int.reduceEq, Nat.reduceLeDiff, Int.reduceLE, g6]
                refine (refPut_calls _ hu _).mono ?_
                rintro v w3 ⟨o3, k3⟩
                have hr3 : RdI w3 .u8 (some ad) b := RdI.fx (w := w2.drew) (by exact hr) k3 (fun _ _ h => h)
                obtain ⟨A2, c2, rfl, _, hv3⟩ := o3.slice
                refine goE_intro hr3 ?_
                simp -implicitDefEqProofs only [go_sem, ↓reduceIte, Nat.reduceEqDiff, Int.reduceLT, Nat.reduceLT, Int.reduceToNat, Int.reducePow, Nat.reduceAdd, Int.reduceEq, Nat.reduceLeDiff, Int.reduceLE]
                refine cv_bytes bs8 hv3 ?_
                refine goE_intro hr3 ?_
                simp -implicitDefEqProofs only [go_sem, ↓reduceIte, Nat.reduceEqDiff, Int.reduceLT, Nat.reduceLT, Int.reduceToNat, Int.reducePow, Nat.reduceAdd, Int.reduceEq, Nat.reduceLeDiff, Int.reduceLE]
                have kk : Keep w2 w3 := (Fx.drew _ w2).trans k3 (fun _ _ h => h)
                have hbt : Bs (b.take i ++ [x]) := by
                  rw [← htk]; exact fun z hz => hb z (List.mem_of_mem_take hz)
                have hst := str_eq (vput_bs (val (b.take i ++ [x]))) hbt
                rw [htk]
                by_cases hq : vput (val (b.take i ++ [x])) = b.take i ++ [x]
                · have z : ((strOfNums (vput (val (b.take i ++ [x])))).toList == (strOfNums (b.take i ++ [x])).toList) = true := by rw [beq_iff_eq]; exact hst.2 hq
                  rw [if_pos hq, hlen] at hv
                  simp -implicitDefEqProofs only [go_sem, ↓reduceIte, Nat.reduceEqDiff, Int.reduceLT, Nat.reduceLT, Int.reduceToNat, Int.reducePow, Nat.reduceAdd, Int.reduceEq, Nat.reduceLeDiff, Int.reduceLE, z, g5, g6, e1]
                  rw [hv]
                  exact ⟨rfl, kk⟩
                · have z : ((strOfNums (vput (val (b.take i ++ [x])))).toList == (strOfNums (b.take i ++ [x])).toList) = false := by rw [beq_eq_false_iff_ne]; exact fun h => hq (hst.1 h)
                  rw [if_neg hq] at hv
                  simp -implicitDefEqProofs only [go_sem, ↓reduceIte, Nat.reduceEqDiff, Int.reduceLT, Nat.reduceLT, Int.reduceToNat, Int.reducePow, Nat.reduceAdd, Int.reduceEq, Nat.reduceLeDiff, Int.reduceLE, z]
                  rw [hv]
                  exact ⟨rfl, kk⟩
    · have h10 : i = 10 := by omega
      have z10 : ((i : Int) == 10) = true := by rw [beq_iff_eq]; omega
      have q10 : ¬ (i : Int) < 10 := by omega
      have hv : vget b = (0, 0, 41) := by
        rw [← List.take_append_drop i b]; exact vgetFrom_high (b.take i) 0 0 _ hH (by omega) (by omega)
      simp -implicitDefEqProofs only [go_sem, ↓reduceIte, Nat.reduceEqDiff, Int.reduceLT, Nat.reduceLT, Int.reduceToNat, Int.reducePow, Nat.reduceAdd, Int.reduceEq, Nat.reduceLeDiff, Int.reduceLE, h0, h5, i0, i1, q10, z10]
      rw [hv]
      exact ⟨rfl, Fx.refl _ _⟩
  · have hil : i = b.length := by omega
    have hbt : b.take i = b := by rw [hil, List.take_length]
    rw [hbt] at hH
    have i1 : ¬ (i : Int) < (b.length : Int) := by omega
    by_cases h10 : i = 10
    · have z10 : ((i : Int) == 10) = true := by rw [beq_iff_eq]; omega
      have hv : vget b = (0, 0, 41) := by
        have := vgetFrom_high b 0 0 [] hH (by omega) (by omega)
        rw [List.append_nil] at this
        exact this
      simp -implicitDefEqProofs only [go_sem, ↓reduceIte, Nat.reduceEqDiff, Int.reduceLT, Nat.reduceLT, Int.reduceToNat, Int.reducePow, Nat.reduceAdd, Int.reduceEq, Nat.reduceLeDiff, Int.reduceLE, h0, h5, i1, z10]
      rw [hv]
      exact ⟨rfl, Fx.refl _ _⟩
    · have z10 : ((i : Int) == 10) = false := by rw [beq_eq_false_iff_ne]; omega
      have zl : ((i : Int) == (b.length : Int)) = true := by rw [beq_iff_eq]; omega
      have hv : vget b = (0, 0, 40) := vgetFrom_short b 0 0 hH (by omega)
      obtain ⟨q9, z9⟩ : ∃ q9, ((i : Int) == 9) = q9 := ⟨_, rfl⟩
      cases q9 with
      | false =>
        simp -implicitDefEqProofs only [go_sem, ↓reduceIte, Nat.reduceEqDiff, Int.reduceLT, Nat.reduceLT, Int.reduceToNat, Int.reducePow, Nat.reduceAdd, Int.reduceEq, Nat.reduceLeDiff, Int.reduceLE, h0, h5, i1, z10, z9, zl]
        rw [hv]
        exact ⟨rfl, Fx.refl _ _⟩
      | true =>
        have l9 : ¬ (9 : Int) < (b.length : Int) := by rw [beq_iff_eq] at z9; omega
        simp -implicitDefEqProofs only [go_sem, ↓reduceIte, Nat.reduceEqDiff, Int.reduceLT, Nat.reduceLT, Int.reduceToNat, Int.reducePow, Nat.reduceAdd, Int.reduceEq, Nat.reduceLeDiff, Int.reduceLE, h0, h5, i1, z10, z9, zl, l9]
        rw [hv]
        exact ⟨rfl, Fx.refl _ _⟩
end Go.Proofs.Ytnoeeiaffnbhcaa.F
