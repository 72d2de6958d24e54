/- The reader of messages, further: flags, small numbers, texts, whole numbers, and lists of anything. Conditions: those of the reader's box; of a list: what its one thing is read as. -/
import Derived.Test.YtnlibeaainbipaaGread
namespace Go.Proofs.Ytnlibeaainbipaa.F
open Go.RowKit Go.Proofs.Ytnlibeaainbipaa.M Go.Proofs.Ytnlibeaainbipaa.V
set_option linter.unusedSimpArgs false
set_option linter.unusedVariables false
set_option maxRecDepth 20000

theorem rnum_range (most : Int) (hm : 0 ≤ most) (s : RS) (hb : Bs s.b) : 0 ≤ (rnum most s).1 ∧ (rnum most s).1 ≤ most := by
  obtain ⟨n, hn, en⟩ := vget_range hb
  unfold rnum
  split
  · split
    · split
      · exact ⟨Int.le_refl _, hm⟩
      · simp only; omega
    · exact ⟨Int.le_refl _, hm⟩
  · exact ⟨Int.le_refl _, hm⟩
theorem rwhole_range (low high : Int) (h0 : low ≤ 0) (h1 : 0 ≤ high) (s : RS) : low ≤ (rwhole low high s).1 ∧ (rwhole low high s).1 ≤ high := by
  unfold rwhole
  split
  · split
    · split
      · exact ⟨h0, h1⟩
      · simp only; omega
    · exact ⟨h0, h1⟩
  · exact ⟨h0, h1⟩
theorem u32_id {n : Int} (h0 : 0 ≤ n) (h1 : n ≤ 4294967295) : IntKind.u32.wrap n = n := by rw [IntKind.wrap_u32]; omega
theorem u16_id {n : Int} (h0 : 0 ≤ n) (h1 : n ≤ 65535) : IntKind.u16.wrap n = n := by rw [IntKind.wrap_u16]; omega
theorem i32_id {n : Int} (h0 : -2147483648 ≤ n) (h1 : n ≤ 2147483647) : IntKind.i32.wrap n = n := by rw [IntKind.wrap_i32]; omega

section
variable {U : Nat → Prop} {w : World} {g : Nat} {s : RS}
theorem flag_calls (hU : ¬ U g) (h : RdS 103 U w g s) :
    callK Try.prog 75 #[.pointer (some (At g 0))] w fun v w' => v = .bool (rflag s).1 ∧ RdS 103 U w' g (rflag s).2 ∧ Fx (only g) w w' := by
  refine callK_of Try.func75 c75 r75 (by exact Nat.le_of_ble_eq_true rfl) ?_
  rw [m75]
  simp -implicitDefEqProofs only [go_sem, seval]
  refine (num_calls 1 hU h).mono ?_
  rintro v w' ⟨rfl, h', hf⟩
  simp -implicitDefEqProofs only [go_sem, seval]
  exact ⟨rfl, h', hf⟩
theorem small_calls (hU : ¬ U g) (h : RdS 103 U w g s) :
    callK Try.prog 45 #[.pointer (some (At g 0))] w fun v w' => v = .int .u32 (rnum 4294967295 s).1 ∧ RdS 103 U w' g (rnum 4294967295 s).2 ∧ Fx (only g) w w' := by
  refine callK_of Try.func45 c45 r45 (by exact Nat.le_of_ble_eq_true rfl) ?_
  rw [m45]
  simp -implicitDefEqProofs only [go_sem, seval]
  refine (num_calls 4294967295 hU h).mono ?_
  rintro v w' ⟨rfl, h', hf⟩
  have r := rnum_range 4294967295 (by decide) s h.bs
  have e := u32_id r.1 r.2
  simp -implicitDefEqProofs only [go_sem, seval, e]
  exact ⟨trivial, h', hf⟩

theorem cut_calls (hU : ¬ U g) (h : RdS 103 U w g s) :
    callK Try.prog 74 #[.pointer (some (At g 0))] w fun v w' => (∃ A c, v = .slice A (rcut s).1.length c ∧ (rcut s).1.length ≤ c ∧ c ≤ maxLen ∧ Elems (Kind.int .u8) U w' A (rcut s).1) ∧ RdS 103 U w' g (rcut s).2 ∧ Fx (only g) w w' := by
  refine callK_of Try.func74 c74 r74 (by exact Nat.le_of_ble_eq_true rfl) ?_
  rw [m74]
  simp -implicitDefEqProofs only [go_sem, seval]
  refine (num_calls 4096 hU h).mono ?_
  rintro v w1 ⟨rfl, h1, f1⟩
  have r := rnum_range 4096 (by decide) s h.bs
  have off : ∀ k, U k → ¬ only g k := fun k hk e => hU (e ▸ hk)
  unfold rcut
  generalize hq : rnum 4096 s = q at *
  obtain ⟨n, s1⟩ := q
  simp only at r h1 ⊢
  obtain ⟨A, c, hb, hlc, hcm, he⟩ := h1
  have hlen : (s1.b.length : Int) ≤ 9223372036854775807 := by simp only [maxLen] at hcm; omega
  have e1 : IntKind.u64.wrap (s1.b.length : Int) = s1.b.length := u64_nat (by omega) (by omega)
  by_cases hlt : (s1.b.length : Int) < n
  · simp -implicitDefEqProofs only [go_sem, seval, hb.cell, e1, hlt]
    refine (fail_calls hb).mono ?_
    rintro v w2 ⟨rfl, hb2, f2⟩
    simp -implicitDefEqProofs only [go_sem, seval]
    exact ⟨⟨none, 0, rfl, Nat.le_refl _, Nat.zero_le _, Elems.nil _ _ _ _⟩, ⟨A, c, hb2, hlc, hcm, he.fx f2 off⟩, f1.tr f2⟩
  · obtain ⟨m, rfl⟩ := Int.eq_ofNat_of_zero_le r.1
    have a1 : (m : Int) ≤ (c : Int) := by omega
    have a2 : m ≤ s1.b.length := by omega
    have a2' : (m : Int) ≤ (s1.b.length : Int) := by omega
    have a3 : (0 : Int) ≤ (m : Int) := by omega
    simp -implicitDefEqProofs only [go_sem, seval, hb.cell, hb.frozen, e1, hlt, a1, a2', a3, hlc]
    have hb2 := hb.set 0 (.slice (cutA A m c 1) (s1.b.length - m) (c - m))
    have hl : (s1.b.take m).length = m := by rw [List.length_take]; omega
    refine ⟨⟨A, c, by rw [hl], by rw [hl]; omega, hcm, (he.take m).fx (Fx.set (m := only g) _ _ _ rfl) off⟩, ⟨cutA A m c 1, c - m, ?_, by simp; omega, by omega, (he.cut m c hlc).fx (Fx.set (m := only g) _ _ _ rfl) off⟩, f1.tr (Fx.set _ _ _ rfl)⟩
    simpa using hb2

theorem string_calls (hU : ¬ U g) (h : RdS 103 U w g s) :
    callK Try.prog 48 #[.pointer (some (At g 0))] w fun v w' => v = .string (rtext s).1 ∧ (rtext s).1.size ≤ maxLen ∧ RdS 103 U w' g (rtext s).2 ∧ Fx (only g) w w' := by
  refine callK_of Try.func48 c48 r48 (by exact Nat.le_of_ble_eq_true rfl) ?_
  rw [m48]
  simp -implicitDefEqProofs only [go_sem, seval]
  refine (cut_calls hU h).mono ?_
  rintro v w1 ⟨⟨A, c, rfl, hlc, hcm, he⟩, h1, f1⟩
  simp -implicitDefEqProofs only [go_sem, seval]
  refine cv_bytes bs8 he.rd ?_
  simp -implicitDefEqProofs only [go_sem, seval]
  exact ⟨rfl, by rw [rtext, strOfNums_size]; omega, h1, f1⟩

theorem whole_calls (low high : Int) (hU : ¬ U g) (h : RdS 103 U w g s) :
    callK Try.prog 78 #[.pointer (some (At g 0)), .int .i64 low, .int .i64 high] w fun v w' => v = .int .i64 (rwhole low high s).1 ∧ RdS 103 U w' g (rwhole low high s).2 ∧ Fx (only g) w w' := by
  refine callK_of Try.func78 c78 r78 (by exact Nat.le_of_ble_eq_true rfl) ?_
  rw [m78]
  obtain ⟨A, c, hb, hlc, hcm, he⟩ := h
  have hcm' : c ≤ 9223372036854775807 := by simp only [maxLen] at hcm; omega
  have off : ∀ k, U k → ¬ only g k := fun k hk e => hU (e ▸ hk)
  by_cases hw : s.why = 0
  · have z : (s.why != 0) = false := by rw [hw]; rfl
    simp -implicitDefEqProofs only [go_sem, seval, hb.cell, z]
    refine (getInt_calls he.rd he.bs (by omega)).mono ?_
    rintro v w' ⟨rfl, rfl⟩
    by_cases h0 : (vget s.b).2.2 = 0
    · have z1 : ((vget s.b).2.2 == 0) = true := by rw [beq_iff_eq]; exact h0
      obtain ⟨u0, u1⟩ := vget_used he.bs h0
      have u2 : (vget s.b).2.1 ≤ (s.b.length : Int) := u1
      have u4 : s.b.length ≤ c := hlc
      by_cases hm : zag (vget s.b).1 < low ∨ high < zag (vget s.b).1
      · have hr : rwhole low high s = (0, ⟨s.b, 62⟩) := by simp [rwhole, hw, h0, hm]
        have z2 : ((62 : Int) != 0) = true := rfl
        by_cases hm1 : zag (vget s.b).1 < low
        case' pos => simp -implicitDefEqProofs only [go_sem, seval, getIV, z1, hm1, z2]
        case' neg =>
          have hm2 : high < zag (vget s.b).1 := by omega
          simp -implicitDefEqProofs only [go_sem, seval, getIV, z1, hm1, hm2, z2]
        all_goals
          refine (fail_calls hb).mono ?_
          rintro v w2 ⟨rfl, hb2, hf⟩
          rw [if_pos hw] at hb2
          simp -implicitDefEqProofs only [go_sem, seval]
          rw [hr]
          exact ⟨rfl, ⟨A, c, hb2, hlc, hcm, he.fx hf off⟩, hf⟩
      · have hr : rwhole low high s = (zag (vget s.b).1, ⟨s.b.drop (vget s.b).2.1.toNat, 0⟩) := by simp [rwhole, hw, h0, hm]
        have z2 : ((vget s.b).2.2 != 0) = false := by rw [h0]; rfl
        have hm1 : ¬ zag (vget s.b).1 < low := by omega
        have hm2 : ¬ high < zag (vget s.b).1 := by omega
        simp -implicitDefEqProofs only [go_sem, seval, getIV, z1, hm1, hm2, z2, hb.cell, hb.frozen, u0, u2, u4]
        rw [hr]
        have hb2 := hb.set 0 (.slice (cutA A (vget s.b).2.1.toNat c 1) (s.b.length - (vget s.b).2.1.toNat) (c - (vget s.b).2.1.toNat))
        refine ⟨rfl, ⟨cutA A (vget s.b).2.1.toNat c 1, c - (vget s.b).2.1.toNat, ?_, by simp; omega, by omega, (he.cut _ c hlc).fx (Fx.set (m := only g) _ _ _ rfl) off⟩, Fx.set _ _ _ rfl⟩
        rw [hw] at hb2
        simpa using hb2
    · have hr : rwhole low high s = (0, ⟨s.b, (vget s.b).2.2⟩) := by simp [rwhole, hw, h0]
      have z1 : ((vget s.b).2.2 == 0) = false := by rw [beq_eq_false_iff_ne]; exact h0
      have z2 : ((vget s.b).2.2 != 0) = true := by rw [bne_iff_ne]; exact h0
      simp -implicitDefEqProofs only [go_sem, seval, getIV, z1, z2]
      refine (fail_calls hb).mono ?_
      rintro v w2 ⟨rfl, hb2, hf⟩
      rw [if_pos hw] at hb2
      simp -implicitDefEqProofs only [go_sem, seval]
      rw [hr]
      exact ⟨rfl, ⟨A, c, hb2, hlc, hcm, he.fx hf off⟩, hf⟩
  · have hr : rwhole low high s = (0, s) := by simp [rwhole, hw]
    have z : (s.why != 0) = true := by rw [bne_iff_ne]; exact hw
    simp -implicitDefEqProofs only [go_sem, seval, hb.cell, z]
    rw [hr]
    exact ⟨rfl, ⟨A, c, hb, hlc, hcm, he⟩, Fx.refl _ _⟩

theorem end_calls (hU : ¬ U g) (h : RdS 103 U w g s) :
    callK Try.prog 33 #[.pointer (some (At g 0))] w fun v w' => v = .int .i64 (rend s).why ∧ RdS 103 U w' g (rend s) ∧ Fx (only g) w w' := by
  refine callK_of Try.func33 c33 r33 (by exact Nat.le_of_ble_eq_true rfl) ?_
  rw [m33]
  obtain ⟨A, c, hb, hlc, hcm, he⟩ := h
  have off : ∀ k, U k → ¬ only g k := fun k hk e => hU (e ▸ hk)
  by_cases hl : s.b = []
  · have z : ¬ (0 : Int) < (s.b.length : Int) := by rw [hl]; simp
    have hr : rend s = s := by simp [rend, hl]
    simp -implicitDefEqProofs only [go_sem, seval, hb.cell, z]
    rw [hr]
    exact ⟨rfl, ⟨A, c, hb, hlc, hcm, he⟩, Fx.refl _ _⟩
  · have z : (0 : Int) < (s.b.length : Int) := by
      have := List.length_pos_iff.2 hl
      omega
    simp -implicitDefEqProofs only [go_sem, seval, hb.cell, z]
    refine (fail_calls hb).mono ?_
    rintro v w2 ⟨rfl, hb2, hf⟩
    simp -implicitDefEqProofs only [go_sem, seval, hb2.cell]
    have hr : rend s = ⟨s.b, if s.why = 0 then 60 else s.why⟩ := by
      unfold rend
      by_cases hw : s.why = 0
      · simp [hl, hw]
      · simp [hl, hw]
    rw [hr]
    exact ⟨rfl, ⟨A, c, hb2, hlc, hcm, he.fx hf off⟩, hf⟩
end

/-- What one thing is read as, whatever stands by (J). -/
def One {α : Type} (K : Kind α) (U : Nat → Prop) (g : Nat) (J : World → Prop) (one : RS → α × RS) (F : Nat) (args : Array Value) : Prop :=
  ∀ (w : World) (s : RS), J w → RdS 103 U w g s → callK Try.prog F args w fun v w' => K.rep (fun k => w.heap.size ≤ k) w' (one s).1 v.cells.toList ∧ RdS 103 U w' g (one s).2 ∧ Fx (only g) w w'

theorem tChange_own {α : Type} {K : Kind α} {one : RS → α × RS} {U : Nat → Prop} {J : World → Prop} {w : World} {g : Nat} {s : RS} {F : Nat} {first cap : Array Value} (hsz : K.sz = 4) (hz : 0 < K.sz) (hF : hasBody Try.prog F = true) (hU : ¬ U g)
    (H : One K U g J one F (first ++ #[] ++ cap)) (hJ : ∀ (w1 w2 : World) (m : Nat → Prop), J w1 → Fx m w1 w2 → (∀ k, m k → k = g ∨ w.heap.size ≤ k) → J w2) (j0 : J w) (h : RdS 103 U w g s) (hUlt : ∀ k, U k → k < w.heap.size) :
    callK Try.prog 50 #[.pointer (some (At g 0)), .func (.func F) first cap] w fun v w' => OwnR K 91 (fun k => w.heap.size ≤ k) w.heap.size w' v (rlist one s).1 ∧ RdS 103 U w' g (rlist one s).2 ∧ Fx (only g) w w' := by
  refine callK_of Try.func50 c50 r50 (by exact Nat.le_of_ble_eq_true rfl) ?_
  rw [m50]
  simp -implicitDefEqProofs only [go_sem, seval]
  have hglt := h.lt
  refine (num_calls 128 hU h).mono ?_
  rintro v w1 ⟨rfl, h1, f1⟩
  have r := rnum_range 128 (by decide) s h.bs
  have j1 := hJ w w1 _ j0 f1 (fun k e => .inl e)
  unfold rlist
  generalize rnum 128 s = q at *
  obtain ⟨n, s1⟩ := q
  simp only at r h1 ⊢
  obtain ⟨N, rfl⟩ := Int.eq_ofNat_of_zero_le r.1
  rw [Int.toNat_natCast]
  simp -implicitDefEqProofs only [go_sem, seval]
  refine loop_intro (fun q f w' => ∃ (n : Nat) (xs : List α) (s' : RS) (v : Value), q = n ∧ f 0 = .pointer (some (At g 0)) ∧ f 1 = .func (.func F) first cap ∧ f 5 = v ∧ f 6 = .int .u64 n ∧ (rmany one N s1).1 = xs ++ (rmany one n s').1 ∧ (rmany one N s1).2 = (rmany one n s').2 ∧ xs.length + n ≤ 128 ∧
      OwnR K 91 (fun k => w.heap.size ≤ k) w.heap.size w' v xs ∧ RdS 103 U w' g s' ∧ J w' ∧ Fx (only g) w w') N
    ⟨N, [], s1, _, rfl, by simp -implicitDefEqProofs only [go_sem, seval], by simp -implicitDefEqProofs only [go_sem, seval], by simp -implicitDefEqProofs only [go_sem, seval], by simp -implicitDefEqProofs only [go_sem, seval], rfl, rfl, by simp; omega, OwnR.nil _ _ _ _ _, h1, j1, f1⟩ ?_
  rintro q f w2 ⟨n, xs, s', v, rfl, g0, g1, g5, g6, e1, e2, hl, ho, h2, j2, f2⟩
  obtain ⟨A, c, hb, hrest⟩ := id h2
  have fin : ∀ {xs' : List α} {s'' : RS}, (rmany one N s1).1 = xs' → (rmany one N s1).2 = s'' → OwnR K 91 (fun k => w.heap.size ≤ k) w.heap.size w2 v xs' → RdS 103 U w2 g s'' →
      OwnR K 91 (fun k => w.heap.size ≤ k) w.heap.size w2 v (rmany one N s1).1 ∧ RdS 103 U w2 g (rmany one N s1).2 ∧ Fx (only g) w w2 := by
    rintro xs' s'' rfl rfl k1 k2
    exact ⟨k1, k2, f2⟩
  cases q with
  | zero =>
    have z : ¬ (0 : Int) < ((0 : Nat) : Int) := by omega
    simp -implicitDefEqProofs only [go_sem, seval, g0, g1, g5, g6, z]
    exact fin (by rw [e1]; simp [rmany]) (by rw [e2]; rfl) ho h2
  | succ n =>
    have z : (0 : Int) < ((n + 1 : Nat) : Int) := by omega
    by_cases hw : s'.why = 0
    · have z1 : (s'.why == 0) = true := by rw [beq_iff_eq]; exact hw
      simp -implicitDefEqProofs only [go_sem, seval, g0, g1, g5, g6, z, z1, hb.cell, fnK_eq hF]
      refine (H w2 s' j2 h2).mono ?_
      rintro v2 w3 ⟨hr, h3, f3⟩
      have hs2 := f2.size
      have hs3 := f3.size
      have j3 := hJ w2 w3 _ j2 f3 (fun k e => .inl e)
      have hvs : v2.cells.size = 4 := by have := K.len hr; simpa [hsz] using this
      have ho3 : OwnR K 91 (fun k => w.heap.size ≤ k) w.heap.size w3 v xs := ho.fx f3 (fun k hk _ e => by have : k = g := e; omega) (fun k hk e => by have := ho.lt hk; have : k = g := e; omega)
      simp -implicitDefEqProofs only [go_sem, seval]
      refine bsl_val et34 (by decide) (by decide) hvs ?_
      have kA : Keep w3 (w3.alloc (.cells v2.cells 91)) := Fx.alloc _ w3 _
      have hbn := (Blk.new w3 91 v2.cells).cells
      have ho4 := ho3.keep kA
      have h4 := h3.keep kA
      have hr4 := K.keep hr kA
      have j4 := hJ w3 _ _ j3 kA (fun k e => e.elim)
      have hs4 := kA.size
      generalize w3.alloc (.cells v2.cells 91) = w4 at *
      simp -implicitDefEqProofs only [go_sem, seval, g5]
      refine append_ownR et34 hsz (by decide) ho4 (K.mono hr4 fun k _ hk => ⟨by omega, fun e => by have := ho.lt e; omega⟩) hbn (by omega) (by simp only [maxLen]; omega) (by omega) ?_
      intro v' w5 ho5 f5
      have j5 := hJ w4 w5 _ j4 f5 (fun k e => .inr (ho4.lt e).1)
      have h5 := h4.fx f5 (fun e => by have := ho4.lt e; omega) (fun k hk e => by have := ho4.lt e; have := hUlt k hk; omega)
      have eN : IntKind.u64.wrap (((n + 1 : Nat) : Int) - 1) = (n : Int) := by rw [u64_nat (by omega) (by omega)]; omega
      simp -implicitDefEqProofs only [go_sem, seval, g0, g1, g5, g6, eN]
      refine ⟨n, by omega, n, xs ++ [(one s').1], (one s').2, v', rfl, by simp -implicitDefEqProofs only [go_sem, seval, g0], by simp -implicitDefEqProofs only [go_sem, seval, g1], by simp -implicitDefEqProofs only [go_sem, seval], by simp -implicitDefEqProofs only [go_sem, seval], ?_, ?_, by simp; omega, ho5, h5, j5, ?_⟩
      · rw [e1]
        simp [rmany, hw]
      · rw [e2]
        simp [rmany, hw]
      · exact ((f2.tr f3).keep kA).new f5 (fun k e hk => by have := ho4.lt e; omega)
    · have z1 : (s'.why == 0) = false := by rw [beq_eq_false_iff_ne]; exact hw
      simp -implicitDefEqProofs only [go_sem, seval, g0, g1, g5, g6, z, z1, hb.cell]
      rw [many_stay hw] at e1 e2
      exact fin (by rw [e1]; simp) (by rw [e2]) ho h2
theorem tChange_calls {α : Type} {K : Kind α} {one : RS → α × RS} {U : Nat → Prop} {J : World → Prop} {w : World} {g : Nat} {s : RS} {F : Nat} {first cap : Array Value} (hsz : K.sz = 4) (hz : 0 < K.sz) (hF : hasBody Try.prog F = true) (hU : ¬ U g)
    (H : One K U g J one F (first ++ #[] ++ cap)) (hJ : ∀ (w1 w2 : World) (m : Nat → Prop), J w1 → Fx m w1 w2 → (∀ k, m k → k = g ∨ w.heap.size ≤ k) → J w2) (j0 : J w) (h : RdS 103 U w g s) (hUlt : ∀ k, U k → k < w.heap.size) :
    callK Try.prog 50 #[.pointer (some (At g 0)), .func (.func F) first cap] w fun v w' => (Kind.list K hz).rep (fun k => w.heap.size ≤ k) w' (rlist one s).1 [v] ∧ RdS 103 U w' g (rlist one s).2 ∧ Fx (only g) w w' :=
  (tChange_own hsz hz hF hU H hJ j0 h hUlt).mono fun v w' k => ⟨k.1.rep hz (fun _ hk => hk) (fun _ hk => hk), k.2⟩
theorem tInt_own {α : Type} {K : Kind α} {one : RS → α × RS} {U : Nat → Prop} {J : World → Prop} {w : World} {g : Nat} {s : RS} {F : Nat} {first cap : Array Value} (hsz : K.sz = 1) (hz : 0 < K.sz) (hF : hasBody Try.prog F = true) (hU : ¬ U g)
    (H : One K U g J one F (first ++ #[] ++ cap)) (hJ : ∀ (w1 w2 : World) (m : Nat → Prop), J w1 → Fx m w1 w2 → (∀ k, m k → k = g ∨ w.heap.size ≤ k) → J w2) (j0 : J w) (h : RdS 103 U w g s) (hUlt : ∀ k, U k → k < w.heap.size) :
    callK Try.prog 76 #[.pointer (some (At g 0)), .func (.func F) first cap] w fun v w' => OwnR K 21 (fun k => w.heap.size ≤ k) w.heap.size w' v (rlist one s).1 ∧ RdS 103 U w' g (rlist one s).2 ∧ Fx (only g) w w' := by
  refine callK_of Try.func76 c76 r76 (by exact Nat.le_of_ble_eq_true rfl) ?_
  rw [m76]
  simp -implicitDefEqProofs only [go_sem, seval]
  have hglt := h.lt
  refine (num_calls 128 hU h).mono ?_
  rintro v w1 ⟨rfl, h1, f1⟩
  have r := rnum_range 128 (by decide) s h.bs
  have j1 := hJ w w1 _ j0 f1 (fun k e => .inl e)
  unfold rlist
  generalize rnum 128 s = q at *
  obtain ⟨n, s1⟩ := q
  simp only at r h1 ⊢
  obtain ⟨N, rfl⟩ := Int.eq_ofNat_of_zero_le r.1
  rw [Int.toNat_natCast]
  simp -implicitDefEqProofs only [go_sem, seval]
  refine loop_intro (fun q f w' => ∃ (n : Nat) (xs : List α) (s' : RS) (v : Value), q = n ∧ f 0 = .pointer (some (At g 0)) ∧ f 1 = .func (.func F) first cap ∧ f 5 = v ∧ f 6 = .int .u64 n ∧ (rmany one N s1).1 = xs ++ (rmany one n s').1 ∧ (rmany one N s1).2 = (rmany one n s').2 ∧ xs.length + n ≤ 128 ∧
      OwnR K 21 (fun k => w.heap.size ≤ k) w.heap.size w' v xs ∧ RdS 103 U w' g s' ∧ J w' ∧ Fx (only g) w w') N
    ⟨N, [], s1, _, rfl, by simp -implicitDefEqProofs only [go_sem, seval], by simp -implicitDefEqProofs only [go_sem, seval], by simp -implicitDefEqProofs only [go_sem, seval], by simp -implicitDefEqProofs only [go_sem, seval], rfl, rfl, by simp; omega, OwnR.nil _ _ _ _ _, h1, j1, f1⟩ ?_
  rintro q f w2 ⟨n, xs, s', v, rfl, g0, g1, g5, g6, e1, e2, hl, ho, h2, j2, f2⟩
  obtain ⟨A, c, hb, hrest⟩ := id h2
  have fin : ∀ {xs' : List α} {s'' : RS}, (rmany one N s1).1 = xs' → (rmany one N s1).2 = s'' → OwnR K 21 (fun k => w.heap.size ≤ k) w.heap.size w2 v xs' → RdS 103 U w2 g s'' →
      OwnR K 21 (fun k => w.heap.size ≤ k) w.heap.size w2 v (rmany one N s1).1 ∧ RdS 103 U w2 g (rmany one N s1).2 ∧ Fx (only g) w w2 := by
    rintro xs' s'' rfl rfl k1 k2
    exact ⟨k1, k2, f2⟩
  cases q with
  | zero =>
    have z : ¬ (0 : Int) < ((0 : Nat) : Int) := by omega
    simp -implicitDefEqProofs only [go_sem, seval, g0, g1, g5, g6, z]
    exact fin (by rw [e1]; simp [rmany]) (by rw [e2]; rfl) ho h2
  | succ n =>
    have z : (0 : Int) < ((n + 1 : Nat) : Int) := by omega
    by_cases hw : s'.why = 0
    · have z1 : (s'.why == 0) = true := by rw [beq_iff_eq]; exact hw
      simp -implicitDefEqProofs only [go_sem, seval, g0, g1, g5, g6, z, z1, hb.cell, fnK_eq hF]
      refine (H w2 s' j2 h2).mono ?_
      rintro v2 w3 ⟨hr, h3, f3⟩
      have hs2 := f2.size
      have hs3 := f3.size
      have j3 := hJ w2 w3 _ j2 f3 (fun k e => .inl e)
      have hvs : v2.cells.size = 1 := by have := K.len hr; simpa [hsz] using this
      have ho3 : OwnR K 21 (fun k => w.heap.size ≤ k) w.heap.size w3 v xs := ho.fx f3 (fun k hk _ e => by have : k = g := e; omega) (fun k hk e => by have := ho.lt hk; have : k = g := e; omega)
      simp -implicitDefEqProofs only [go_sem, seval]
      refine bsl_val et35 (by decide) (by decide) hvs ?_
      have kA : Keep w3 (w3.alloc (.cells v2.cells 21)) := Fx.alloc _ w3 _
      have hbn := (Blk.new w3 21 v2.cells).cells
      have ho4 := ho3.keep kA
      have h4 := h3.keep kA
      have hr4 := K.keep hr kA
      have j4 := hJ w3 _ _ j3 kA (fun k e => e.elim)
      have hs4 := kA.size
      generalize w3.alloc (.cells v2.cells 21) = w4 at *
      simp -implicitDefEqProofs only [go_sem, seval, g5]
      refine append_ownR et35 hsz (by decide) ho4 (K.mono hr4 fun k _ hk => ⟨by omega, fun e => by have := ho.lt e; omega⟩) hbn (by omega) (by simp only [maxLen]; omega) (by omega) ?_
      intro v' w5 ho5 f5
      have j5 := hJ w4 w5 _ j4 f5 (fun k e => .inr (ho4.lt e).1)
      have h5 := h4.fx f5 (fun e => by have := ho4.lt e; omega) (fun k hk e => by have := ho4.lt e; have := hUlt k hk; omega)
      have eN : IntKind.u64.wrap (((n + 1 : Nat) : Int) - 1) = (n : Int) := by rw [u64_nat (by omega) (by omega)]; omega
      simp -implicitDefEqProofs only [go_sem, seval, g0, g1, g5, g6, eN]
      refine ⟨n, by omega, n, xs ++ [(one s').1], (one s').2, v', rfl, by simp -implicitDefEqProofs only [go_sem, seval, g0], by simp -implicitDefEqProofs only [go_sem, seval, g1], by simp -implicitDefEqProofs only [go_sem, seval], by simp -implicitDefEqProofs only [go_sem, seval], ?_, ?_, by simp; omega, ho5, h5, j5, ?_⟩
      · rw [e1]
        simp [rmany, hw]
      · rw [e2]
        simp [rmany, hw]
      · exact ((f2.tr f3).keep kA).new f5 (fun k e hk => by have := ho4.lt e; omega)
    · have z1 : (s'.why == 0) = false := by rw [beq_eq_false_iff_ne]; exact hw
      simp -implicitDefEqProofs only [go_sem, seval, g0, g1, g5, g6, z, z1, hb.cell]
      rw [many_stay hw] at e1 e2
      exact fin (by rw [e1]; simp) (by rw [e2]) ho h2
theorem tInt_calls {α : Type} {K : Kind α} {one : RS → α × RS} {U : Nat → Prop} {J : World → Prop} {w : World} {g : Nat} {s : RS} {F : Nat} {first cap : Array Value} (hsz : K.sz = 1) (hz : 0 < K.sz) (hF : hasBody Try.prog F = true) (hU : ¬ U g)
    (H : One K U g J one F (first ++ #[] ++ cap)) (hJ : ∀ (w1 w2 : World) (m : Nat → Prop), J w1 → Fx m w1 w2 → (∀ k, m k → k = g ∨ w.heap.size ≤ k) → J w2) (j0 : J w) (h : RdS 103 U w g s) (hUlt : ∀ k, U k → k < w.heap.size) :
    callK Try.prog 76 #[.pointer (some (At g 0)), .func (.func F) first cap] w fun v w' => (Kind.list K hz).rep (fun k => w.heap.size ≤ k) w' (rlist one s).1 [v] ∧ RdS 103 U w' g (rlist one s).2 ∧ Fx (only g) w w' :=
  (tInt_own hsz hz hF hU H hJ j0 h hUlt).mono fun v w' k => ⟨k.1.rep hz (fun _ hk => hk) (fun _ hk => hk), k.2⟩
theorem tStr_own {α : Type} {K : Kind α} {one : RS → α × RS} {U : Nat → Prop} {J : World → Prop} {w : World} {g : Nat} {s : RS} {F : Nat} {first cap : Array Value} (hsz : K.sz = 1) (hz : 0 < K.sz) (hF : hasBody Try.prog F = true) (hU : ¬ U g)
    (H : One K U g J one F (first ++ #[] ++ cap)) (hJ : ∀ (w1 w2 : World) (m : Nat → Prop), J w1 → Fx m w1 w2 → (∀ k, m k → k = g ∨ w.heap.size ≤ k) → J w2) (j0 : J w) (h : RdS 103 U w g s) (hUlt : ∀ k, U k → k < w.heap.size) :
    callK Try.prog 79 #[.pointer (some (At g 0)), .func (.func F) first cap] w fun v w' => OwnR K 9 (fun k => w.heap.size ≤ k) w.heap.size w' v (rlist one s).1 ∧ RdS 103 U w' g (rlist one s).2 ∧ Fx (only g) w w' := by
  refine callK_of Try.func79 c79 r79 (by exact Nat.le_of_ble_eq_true rfl) ?_
  rw [m79]
  simp -implicitDefEqProofs only [go_sem, seval]
  have hglt := h.lt
  refine (num_calls 128 hU h).mono ?_
  rintro v w1 ⟨rfl, h1, f1⟩
  have r := rnum_range 128 (by decide) s h.bs
  have j1 := hJ w w1 _ j0 f1 (fun k e => .inl e)
  unfold rlist
  generalize rnum 128 s = q at *
  obtain ⟨n, s1⟩ := q
  simp only at r h1 ⊢
  obtain ⟨N, rfl⟩ := Int.eq_ofNat_of_zero_le r.1
  rw [Int.toNat_natCast]
  simp -implicitDefEqProofs only [go_sem, seval]
  refine loop_intro (fun q f w' => ∃ (n : Nat) (xs : List α) (s' : RS) (v : Value), q = n ∧ f 0 = .pointer (some (At g 0)) ∧ f 1 = .func (.func F) first cap ∧ f 5 = v ∧ f 6 = .int .u64 n ∧ (rmany one N s1).1 = xs ++ (rmany one n s').1 ∧ (rmany one N s1).2 = (rmany one n s').2 ∧ xs.length + n ≤ 128 ∧
      OwnR K 9 (fun k => w.heap.size ≤ k) w.heap.size w' v xs ∧ RdS 103 U w' g s' ∧ J w' ∧ Fx (only g) w w') N
    ⟨N, [], s1, _, rfl, by simp -implicitDefEqProofs only [go_sem, seval], by simp -implicitDefEqProofs only [go_sem, seval], by simp -implicitDefEqProofs only [go_sem, seval], by simp -implicitDefEqProofs only [go_sem, seval], rfl, rfl, by simp; omega, OwnR.nil _ _ _ _ _, h1, j1, f1⟩ ?_
  rintro q f w2 ⟨n, xs, s', v, rfl, g0, g1, g5, g6, e1, e2, hl, ho, h2, j2, f2⟩
  obtain ⟨A, c, hb, hrest⟩ := id h2
  have fin : ∀ {xs' : List α} {s'' : RS}, (rmany one N s1).1 = xs' → (rmany one N s1).2 = s'' → OwnR K 9 (fun k => w.heap.size ≤ k) w.heap.size w2 v xs' → RdS 103 U w2 g s'' →
      OwnR K 9 (fun k => w.heap.size ≤ k) w.heap.size w2 v (rmany one N s1).1 ∧ RdS 103 U w2 g (rmany one N s1).2 ∧ Fx (only g) w w2 := by
    rintro xs' s'' rfl rfl k1 k2
    exact ⟨k1, k2, f2⟩
  cases q with
  | zero =>
    have z : ¬ (0 : Int) < ((0 : Nat) : Int) := by omega
    simp -implicitDefEqProofs only [go_sem, seval, g0, g1, g5, g6, z]
    exact fin (by rw [e1]; simp [rmany]) (by rw [e2]; rfl) ho h2
  | succ n =>
    have z : (0 : Int) < ((n + 1 : Nat) : Int) := by omega
    by_cases hw : s'.why = 0
    · have z1 : (s'.why == 0) = true := by rw [beq_iff_eq]; exact hw
      simp -implicitDefEqProofs only [go_sem, seval, g0, g1, g5, g6, z, z1, hb.cell, fnK_eq hF]
      refine (H w2 s' j2 h2).mono ?_
      rintro v2 w3 ⟨hr, h3, f3⟩
      have hs2 := f2.size
      have hs3 := f3.size
      have j3 := hJ w2 w3 _ j2 f3 (fun k e => .inl e)
      have hvs : v2.cells.size = 1 := by have := K.len hr; simpa [hsz] using this
      have ho3 : OwnR K 9 (fun k => w.heap.size ≤ k) w.heap.size w3 v xs := ho.fx f3 (fun k hk _ e => by have : k = g := e; omega) (fun k hk e => by have := ho.lt hk; have : k = g := e; omega)
      simp -implicitDefEqProofs only [go_sem, seval]
      refine bsl_val et36 (by decide) (by decide) hvs ?_
      have kA : Keep w3 (w3.alloc (.cells v2.cells 9)) := Fx.alloc _ w3 _
      have hbn := (Blk.new w3 9 v2.cells).cells
      have ho4 := ho3.keep kA
      have h4 := h3.keep kA
      have hr4 := K.keep hr kA
      have j4 := hJ w3 _ _ j3 kA (fun k e => e.elim)
      have hs4 := kA.size
      generalize w3.alloc (.cells v2.cells 9) = w4 at *
      simp -implicitDefEqProofs only [go_sem, seval, g5]
      refine append_ownR et36 hsz (by decide) ho4 (K.mono hr4 fun k _ hk => ⟨by omega, fun e => by have := ho.lt e; omega⟩) hbn (by omega) (by simp only [maxLen]; omega) (by omega) ?_
      intro v' w5 ho5 f5
      have j5 := hJ w4 w5 _ j4 f5 (fun k e => .inr (ho4.lt e).1)
      have h5 := h4.fx f5 (fun e => by have := ho4.lt e; omega) (fun k hk e => by have := ho4.lt e; have := hUlt k hk; omega)
      have eN : IntKind.u64.wrap (((n + 1 : Nat) : Int) - 1) = (n : Int) := by rw [u64_nat (by omega) (by omega)]; omega
      simp -implicitDefEqProofs only [go_sem, seval, g0, g1, g5, g6, eN]
      refine ⟨n, by omega, n, xs ++ [(one s').1], (one s').2, v', rfl, by simp -implicitDefEqProofs only [go_sem, seval, g0], by simp -implicitDefEqProofs only [go_sem, seval, g1], by simp -implicitDefEqProofs only [go_sem, seval], by simp -implicitDefEqProofs only [go_sem, seval], ?_, ?_, by simp; omega, ho5, h5, j5, ?_⟩
      · rw [e1]
        simp [rmany, hw]
      · rw [e2]
        simp [rmany, hw]
      · exact ((f2.tr f3).keep kA).new f5 (fun k e hk => by have := ho4.lt e; omega)
    · have z1 : (s'.why == 0) = false := by rw [beq_eq_false_iff_ne]; exact hw
      simp -implicitDefEqProofs only [go_sem, seval, g0, g1, g5, g6, z, z1, hb.cell]
      rw [many_stay hw] at e1 e2
      exact fin (by rw [e1]; simp) (by rw [e2]) ho h2
theorem tStr_calls {α : Type} {K : Kind α} {one : RS → α × RS} {U : Nat → Prop} {J : World → Prop} {w : World} {g : Nat} {s : RS} {F : Nat} {first cap : Array Value} (hsz : K.sz = 1) (hz : 0 < K.sz) (hF : hasBody Try.prog F = true) (hU : ¬ U g)
    (H : One K U g J one F (first ++ #[] ++ cap)) (hJ : ∀ (w1 w2 : World) (m : Nat → Prop), J w1 → Fx m w1 w2 → (∀ k, m k → k = g ∨ w.heap.size ≤ k) → J w2) (j0 : J w) (h : RdS 103 U w g s) (hUlt : ∀ k, U k → k < w.heap.size) :
    callK Try.prog 79 #[.pointer (some (At g 0)), .func (.func F) first cap] w fun v w' => (Kind.list K hz).rep (fun k => w.heap.size ≤ k) w' (rlist one s).1 [v] ∧ RdS 103 U w' g (rlist one s).2 ∧ Fx (only g) w w' :=
  (tStr_own hsz hz hF hU H hJ j0 h hUlt).mono fun v w' k => ⟨k.1.rep hz (fun _ hk => hk) (fun _ hk => hk), k.2⟩
end Go.Proofs.Ytnlibeaainbipaa.F
