/- All messages that bytes begin with, as the document tells them: the error that ends them. Conditions: the slice's places hold the bytes. -/
import Derived.Test.YtnlibeaainbipaaGreatFfirst
namespace Go.Proofs.YtnlibeaainbipaaGreat.F
open Go.RowKit Go.Proofs.YtnlibeaainbipaaGreat.M Go.Proofs.YtnlibeaainbipaaGreat.V
set_option linter.unusedSimpArgs false
set_option linter.unusedVariables false
set_option maxRecDepth 20000
/-- Reading one message behind the other ends with this error. -/
inductive Ends : List Int → Int → Prop where
  | stop {b : List Int} : (nextF b).2.1 ≠ 0 → Ends b (nextF b).2.1
  | go {b : List Int} {e : Int} : (nextF b).2.1 = 0 → Ends (nextF b).2.2.1 e → Ends b e
theorem Ends.same {b : List Int} {e e' : Int} (h : Ends b e) (h' : Ends b e') : e = e' := by
  induction h with
  | stop hn => cases h' with
    | stop _ => rfl
    | go h0 _ => exact absurd h0 hn
  | go h0 _ ih => cases h' with
    | stop hn => exact absurd h0 hn
    | go _ h2 => exact ih h2
/-- Cells of a message, whatever they say. -/
def kRaw : Kind Unit where
  sz := 28
  rep _ _ _ cs := cs.length = 28 ∧ ∀ v ∈ cs, v.oneCell' = true
  len h := h.1
  ext h _ := h
  mono h _ := h
  one h := h.2
theorem all_one : ∀ {cs : List Value}, allOne cs = true → ∀ v ∈ cs, v.oneCell' = true
  | [], _ => by simp
  | v :: vs, h => by
    rw [allOne_cons, Bool.and_eq_true] at h
    intro u hu
    rcases List.mem_cons.1 hu with rfl | hu
    · exact h.1
    · exact all_one h.2 u hu
set_option maxHeartbeats 800000 in
theorem all_calls {w : World} {A : Option Addr} {c : Nat} {b : List Int} (hrd : RdI w .u8 A b) (hc : b.length ≤ c) (hcm : c ≤ maxLen) (hbs : Bs b) (hlen : b.length ≤ 1000000) :
    callK Tryz.prog 17 #[.slice A b.length c] w fun v w' => (∃ l e n, v = .tuple #[l, .int .i64 e, n] ∧ Ends b e) ∧ Keep w w' := by
  refine callK_of Tryz.func17 c17 r17 (by exact Nat.le_of_ble_eq_true rfl) ?_
  rw [m17]
  simp -implicitDefEqProofs only [go_sem, seval]
  refine loop_intro (fun q f w' => ∃ (A' : Option Addr) (c' : Nat) (b' : List Int) (v : Value) (xs : List Unit), q = b'.length ∧ f 0 = .slice A' b'.length c' ∧ f 5 = v ∧ RdI w' .u8 A' b' ∧ b'.length ≤ c' ∧ c' ≤ c ∧ Bs b' ∧ xs.length + b'.length ≤ b.length ∧ OwnR kRaw 37 (fun _ => True) w.heap.size w' v xs ∧ (∀ e, Ends b' e → Ends b e) ∧ Keep w w' ∧ (∀ ad, A' = some ad → b' ≠ [] → ad.block < w.heap.size)) b.length
    ⟨A, c, b, _, [], rfl, by simp -implicitDefEqProofs only [go_sem, seval], by simp -implicitDefEqProofs only [go_sem, seval], hrd, hc, Nat.le_refl _, hbs, by simp, OwnR.nil _ _ _ _ _, fun _ h => h, Fx.refl _ _, fun ad e hne => rdI_lt hrd hne ad e⟩ ?_
  rintro q f w1 ⟨A', c', b', v, xs, rfl, g0, g5, hr1, hc1, hcc, hb1, hlx, hO, hE, k1, hA⟩
  subst g5
  have s1 := k1.size
  simp -implicitDefEqProofs only [go_sem, seval, g0]
  refine (first_calls hr1 hc1 (by omega) hb1 (by omega)).mono ?_
  rintro v' w2 ⟨⟨cs, n, rfl, hcl, hone, hgo⟩, k2⟩
  have hr2 := hr1.fx k2 (fun _ _ h => h)
  obtain ⟨w3, S3, hx3, k3, s3⟩ := store_cells (w := w2) hcl hone
  have hr3 := hr2.fx k3 (fun _ _ h => h)
  have K3 := (k1.tr k2).tr k3
  have hO3 := (hO.keep k2).keep k3
  by_cases h40 : (nextF b').2.1 = 40
  · have hEn := hE _ (Ends.stop (b := b') (by rw [h40]; decide))
    have z : ((nextF b').2.1 == 40) = true := by rw [h40]; rfl
    simp -implicitDefEqProofs only [go_sem, seval, g0, S3, z]
    exact ⟨⟨_, _, _, rfl, hEn⟩, K3⟩
  have z : ((nextF b').2.1 == 40) = false := by rw [beq_eq_false_iff_ne]; exact h40
  by_cases h0 : (nextF b').2.1 = 0
  case neg =>
    have hEn := hE _ (Ends.stop h0)
    have z' : ((nextF b').2.1 != 0) = true := by rw [bne_iff_ne]; exact h0
    simp -implicitDefEqProofs only [go_sem, seval, g0, S3, z, z']
    exact ⟨⟨_, _, _, rfl, hEn⟩, K3⟩
  have z' : ((nextF b').2.1 != 0) = false := by rw [bne_eq_false_iff_eq]; exact h0
  obtain ⟨m, rfl, hm0, hml, hrest⟩ := hgo h0
  have hci := cells_in hx3 0 28
  rw [List.drop_zero, List.take_of_length_le (by omega)] at hci
  have ld3 := ldV_agg (P := Tryz.prog) (w := w3) sh37 hcl hci
  simp -implicitDefEqProofs only [go_sem, seval, g0, S3, z, z', ld3]
  have hvs : (Value.agg cs.toArray).cells.size = 28 := by show cs.toArray.size = 28; simpa using hcl
  refine bsl_val et56 (by decide) (by decide) hvs ?_
  have kA : Keep w3 (w3.alloc (.cells (Value.agg cs.toArray).cells 37)) := Fx.alloc _ w3 _
  have hbn := (Blk.new w3 37 (Value.agg cs.toArray).cells).cells
  have hO4 := hO3.keep kA
  have K4 := K3.tr kA
  have s4 := K4.size
  have hr4 := hr3.fx kA (fun _ _ h => h)
  have hsl : (w3.alloc (.cells (Value.agg cs.toArray).cells 37)).heap.size = w3.heap.size + 1 := size_alloc _ _
  generalize w3.alloc (.cells (Value.agg cs.toArray).cells 37) = w4 at *
  simp -implicitDefEqProofs only [go_sem, seval]
  refine append_ownR (K := kRaw) (x := ()) (cs := cs) et56 rfl (by decide) hO4 ⟨hcl, all_one hone⟩ hbn (by omega) (by simp only [maxLen]; omega) (by omega) ?_
  intro v5 w5 hO5 f5
  have hlo : ∀ k, (f 5).ownBlock = some k → w.heap.size ≤ k := fun k hk => (hO4.lt hk).1
  have K5 : Keep w w5 := K4.new f5 (fun k hk hlt => by have := hlo k hk; omega)
  have hr5 := hr4.fx f5 (fun ad e hk => by
    by_cases hne : b' = []
    · subst hne; simp at hml; omega
    · have := hA ad e hne
      have := hlo _ hk
      omega)
  have n0 : (0 : Int) ≤ (m : Int) := by omega
  have n1 : (m : Int) ≤ (b'.length : Int) := by omega
  have n2 : (m : Int) ≤ (c' : Int) := by omega
  have n3 : m ≤ c' := by omega
  simp -implicitDefEqProofs only [go_sem, seval, g0, n0, n1, n2, hc1, n3, hml]
  have hdl : (b'.drop m).length = b'.length - m := List.length_drop ..
  refine ⟨b'.length - m, by omega, cutA A' m c' 1, c' - m, b'.drop m, v5, xs ++ [()], hdl.symm, by rw [hdl]; simp -implicitDefEqProofs only [go_sem, seval], by simp -implicitDefEqProofs only [go_sem, seval], hr5.cut m c' hc1, by omega, by omega, hb1.drop m, by rw [hdl, List.length_append]; simp; omega, hO5, fun e he => hE e (Ends.go h0 (by rw [hrest]; exact he)), K5, ?_⟩
  intro ad e hne
  have hne' : b' ≠ [] := by rintro rfl; simp at hne
  unfold cutA at e
  split at e
  · exact hA ad e hne'
  · cases hA' : A' with
    | none => rw [hA'] at e; cases e
    | some a => rw [hA'] at e; cases e; rw [add_block]; exact hA a hA' hne'
end Go.Proofs.YtnlibeaainbipaaGreat.F
