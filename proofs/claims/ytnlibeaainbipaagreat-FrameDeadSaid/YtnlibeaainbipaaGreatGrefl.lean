/- The document's own reading of lists, items and changes. Conditions: those of its box; what is left to read lies in blocks that stand. -/
import Derived.Test.YtnlibeaainbipaaGreatGref
namespace Go.Proofs.YtnlibeaainbipaaGreat.F
open Go.RowKit Go.Proofs.YtnlibeaainbipaaGreat.M Go.Proofs.YtnlibeaainbipaaGreat.V
set_option linter.unusedSimpArgs false
set_option linter.unusedVariables false
set_option maxRecDepth 20000

theorem refVec_calls {U : Nat → Prop} {w : World} {g : Nat} {s : RS} (hU : ¬ U g) (hUlt : ∀ k, U k → k < w.heap.size) (h : RdS 129 U w g s) :
    callK Tryz.prog 59 #[.pointer (some (At g 0))] w fun v w' => (kVec).rep (fun k => w.heap.size ≤ k) w' (rlist (rwhole (-2147483648) 2147483647) s).1 [v] ∧ RdS 129 U w' g (rlist (rwhole (-2147483648) 2147483647) s).2 ∧ Fx (only g) w w' := by
  refine callK_of Tryz.func59 c59 r59 (by exact Nat.le_of_ble_eq_true rfl) ?_
  rw [m59]
  simp -implicitDefEqProofs only [go_sem, seval]
  have hglt := h.lt
  refine (refNum_calls 128 hU h).mono ?_
  rintro v w1 ⟨rfl, h1, f1⟩
  have r := rnum_range 128 (by decide) s h.bs
  unfold rlist
  generalize rnum 128 s = q at *
  obtain ⟨n, s1⟩ := q
  simp only at r h1 ⊢
  obtain ⟨N, rfl⟩ := Int.eq_ofNat_of_zero_le r.1
  rw [Int.toNat_natCast]
  have eN : IntKind.i64.wrap (N : Int) = (N : Int) := i64_nat (by omega) (by omega)
  simp -implicitDefEqProofs only [go_sem, seval, eN]
  refine loop_intro (fun q f w' => ∃ (i : Nat) (xs : List _) (s' : RS) (v : Value), q = N - i ∧ i ≤ N ∧ f 0 = .pointer (some (At g 0)) ∧ f 3 = v ∧ f 4 = .int .i64 N ∧ f 5 = .int .i64 i ∧ (rmany (rwhole (-2147483648) 2147483647) N s1).1 = xs ++ (rmany (rwhole (-2147483648) 2147483647) (N - i) s').1 ∧ (rmany (rwhole (-2147483648) 2147483647) N s1).2 = (rmany (rwhole (-2147483648) 2147483647) (N - i) s').2 ∧ xs.length = i ∧
      OwnR (Kind.int .i32) 21 (fun k => w.heap.size ≤ k) w.heap.size w' v xs ∧ RdS 129 U w' g s' ∧ Fx (only g) w w') N
    ⟨0, [], s1, _, rfl, by omega, by simp -implicitDefEqProofs only [go_sem, seval], by simp -implicitDefEqProofs only [go_sem, seval], by simp -implicitDefEqProofs only [go_sem, seval], by simp -implicitDefEqProofs only [go_sem, seval] <;> rfl, rfl, rfl, rfl, OwnR.nil _ _ _ _ _, h1, f1⟩ ?_
  rintro q f w2 ⟨i, xs, s', v, rfl, hi, g0, gv, gn, gi, e1, e2, hl, ho, h2, f2⟩
  obtain ⟨A, c, hb, hrest⟩ := id h2
  have fin : ∀ {xs' : List _} {s'' : RS}, (rmany (rwhole (-2147483648) 2147483647) N s1).1 = xs' → (rmany (rwhole (-2147483648) 2147483647) N s1).2 = s'' → OwnR (Kind.int .i32) 21 (fun k => w.heap.size ≤ k) w.heap.size w2 v xs' → RdS 129 U w2 g s'' →
      (kVec).rep (fun k => w.heap.size ≤ k) w2 (rmany (rwhole (-2147483648) 2147483647) N s1).1 [v] ∧ RdS 129 U w2 g (rmany (rwhole (-2147483648) 2147483647) N s1).2 ∧ Fx (only g) w w2 := by
    rintro xs' s'' rfl rfl k1 k2
    exact ⟨k1.rep _ (fun _ hk => hk) (fun _ hk => hk), k2, f2⟩
  by_cases hlt : i < N
  · have z : (i : Int) < (N : Int) := by omega
    by_cases hw : s'.why = 0
    · have z1 : (s'.why == 0) = true := by rw [beq_iff_eq]; exact hw
      simp -implicitDefEqProofs only [go_sem, seval, g0, gv, gn, gi, z, z1, hb.cell]
      have hs2 := f2.size
      have hlt2 : ∀ k, U k → k < w2.heap.size := fun k hk => by have := hUlt k hk; omega
      have close : ∀ (w3 : World) (cs : List Value) (v2 : Value), v2.cells = cs.toArray → (Kind.int .i32).rep (fun k => w2.heap.size ≤ k) w3 ((rwhole (-2147483648) 2147483647) s').1 cs → RdS 129 U w3 g ((rwhole (-2147483648) 2147483647) s').2 → Fx (only g) w2 w3 → ∀ (K : Value → World → Prop),
          (∀ v' w5, OwnR (Kind.int .i32) 21 (fun k => w.heap.size ≤ k) w.heap.size w5 v' (xs ++ [((rwhole (-2147483648) 2147483647) s').1]) → RdS 129 U w5 g ((rwhole (-2147483648) 2147483647) s').2 → Fx (only g) w w5 → K v' w5) →
          appK Tryz.prog #[29, 29] 29 #[v, .slice (some (At w3.heap.size 0)) 1 1] (w3.alloc (.cells v2.cells 21)) K := by
        intro w3 cs v2 hv2 hr h3 f3 K hK
        have hs3 := f3.size
        have ho3 : OwnR (Kind.int .i32) 21 (fun k => w.heap.size ≤ k) w.heap.size w3 v xs := ho.fx f3 (fun k hk _ e => by have : k = g := e; omega) (fun k hk e => by have := ho.lt hk; have : k = g := e; omega)
        have kA : Keep w3 (w3.alloc (.cells v2.cells 21)) := Fx.alloc _ w3 _
        have hbn := (Blk.new w3 21 v2.cells).cells
        rw [hv2] at hbn kA ⊢
        have ho4 := ho3.keep kA
        have h4 := h3.keep kA
        have hr4 := ((Kind.int .i32)).keep hr kA
        have hs4 := kA.size
        generalize w3.alloc (.cells cs.toArray 21) = w4 at *
        refine append_ownR et29 rfl (by decide) ho4 (((Kind.int .i32)).mono hr4 fun k _ hk => ⟨by omega, fun e => by have := ho.lt e; omega⟩) hbn (by omega) (by simp only [maxLen]; omega) (by omega) ?_
        intro v' w5 ho5 f5
        refine hK v' w5 ho5 (h4.fx f5 (fun e => by have := ho4.lt e; omega) (fun k hk e => by have := ho4.lt e; have := hUlt k hk; omega)) ?_
        exact ((f2.tr f3).keep kA).new f5 (fun k e hk => by have := ho4.lt e; omega)
      have eI : IntKind.i64.wrap ((i : Int) + 1) = ((i + 1 : Nat) : Int) := i64_nat (by omega) (by omega)
      have again : (rmany (rwhole (-2147483648) 2147483647) N s1).1 = (xs ++ [((rwhole (-2147483648) 2147483647) s').1]) ++ (rmany (rwhole (-2147483648) 2147483647) (N - (i + 1)) ((rwhole (-2147483648) 2147483647) s').2).1 ∧ (rmany (rwhole (-2147483648) 2147483647) N s1).2 = (rmany (rwhole (-2147483648) 2147483647) (N - (i + 1)) ((rwhole (-2147483648) 2147483647) s').2).2 := by
        have hn : N - i = (N - (i + 1)) + 1 := by omega
        rw [e1, e2, hn]
        simp [rmany, hw]
      refine (refWhole_calls (-2147483648) 2147483647 hU h2).mono ?_
      rintro v2 w3 ⟨rfl, h3, f3⟩
      have rr := rwhole_range (-2147483648) 2147483647 (by decide) (by decide) s'
      have ei := i32_id rr.1 rr.2
      simp -implicitDefEqProofs only [go_sem, seval, ei]
      refine bsl_val et29 (by decide) (by decide) (v := .int .i32 (rwhole (-2147483648) 2147483647 s').1) rfl ?_
      simp -implicitDefEqProofs only [go_sem, seval, gv]
      refine close w3 _ (.int .i32 _) rfl ⟨rfl, wfI32 rr.1 rr.2⟩ h3 f3 _ ?_
      intro v' w5 ho5 h5 f5
      simp -implicitDefEqProofs only [go_sem, seval, g0, gv, gn, gi, eI]
      exact ⟨N - (i + 1), by omega, i + 1, _, _, v', rfl, by omega, by simp -implicitDefEqProofs only [go_sem, seval, g0], by simp -implicitDefEqProofs only [go_sem, seval], by simp -implicitDefEqProofs only [go_sem, seval, gn], by simp -implicitDefEqProofs only [go_sem, seval], again.1, again.2, by simp [hl], ho5, h5, f5⟩
    · have z1 : (s'.why == 0) = false := by rw [beq_eq_false_iff_ne]; exact hw
      simp -implicitDefEqProofs only [go_sem, seval, g0, gv, gn, gi, z, z1, hb.cell]
      rw [many_stay hw] at e1 e2
      exact fin (by rw [e1]; simp) (by rw [e2]) ho h2
  · have z : ¬ (i : Int) < (N : Int) := by omega
    have hiN : N - i = 0 := by omega
    rw [hiN] at e1 e2
    simp -implicitDefEqProofs only [go_sem, seval, g0, gv, gn, gi, z]
    exact fin (by rw [e1]; simp [rmany]) (by rw [e2]; rfl) ho h2
theorem refTexts_calls {U : Nat → Prop} {w : World} {g : Nat} {s : RS} (hU : ¬ U g) (hUlt : ∀ k, U k → k < w.heap.size) (h : RdS 129 U w g s) :
    callK Tryz.prog 60 #[.pointer (some (At g 0))] w fun v w' => (kTexts).rep (fun k => w.heap.size ≤ k) w' (rlist rtext s).1 [v] ∧ RdS 129 U w' g (rlist rtext s).2 ∧ Fx (only g) w w' := by
  refine callK_of Tryz.func60 c60 r60 (by exact Nat.le_of_ble_eq_true rfl) ?_
  rw [m60]
  simp -implicitDefEqProofs only [go_sem, seval]
  have hglt := h.lt
  refine (refNum_calls 128 hU h).mono ?_
  rintro v w1 ⟨rfl, h1, f1⟩
  have r := rnum_range 128 (by decide) s h.bs
  unfold rlist
  generalize rnum 128 s = q at *
  obtain ⟨n, s1⟩ := q
  simp only at r h1 ⊢
  obtain ⟨N, rfl⟩ := Int.eq_ofNat_of_zero_le r.1
  rw [Int.toNat_natCast]
  have eN : IntKind.i64.wrap (N : Int) = (N : Int) := i64_nat (by omega) (by omega)
  simp -implicitDefEqProofs only [go_sem, seval, eN]
  refine loop_intro (fun q f w' => ∃ (i : Nat) (xs : List _) (s' : RS) (v : Value), q = N - i ∧ i ≤ N ∧ f 0 = .pointer (some (At g 0)) ∧ f 3 = v ∧ f 4 = .int .i64 N ∧ f 5 = .int .i64 i ∧ (rmany rtext N s1).1 = xs ++ (rmany rtext (N - i) s').1 ∧ (rmany rtext N s1).2 = (rmany rtext (N - i) s').2 ∧ xs.length = i ∧
      OwnR Kind.str 9 (fun k => w.heap.size ≤ k) w.heap.size w' v xs ∧ RdS 129 U w' g s' ∧ Fx (only g) w w') N
    ⟨0, [], s1, _, rfl, by omega, by simp -implicitDefEqProofs only [go_sem, seval], by simp -implicitDefEqProofs only [go_sem, seval], by simp -implicitDefEqProofs only [go_sem, seval], by simp -implicitDefEqProofs only [go_sem, seval] <;> rfl, rfl, rfl, rfl, OwnR.nil _ _ _ _ _, h1, f1⟩ ?_
  rintro q f w2 ⟨i, xs, s', v, rfl, hi, g0, gv, gn, gi, e1, e2, hl, ho, h2, f2⟩
  obtain ⟨A, c, hb, hrest⟩ := id h2
  have fin : ∀ {xs' : List _} {s'' : RS}, (rmany rtext N s1).1 = xs' → (rmany rtext N s1).2 = s'' → OwnR Kind.str 9 (fun k => w.heap.size ≤ k) w.heap.size w2 v xs' → RdS 129 U w2 g s'' →
      (kTexts).rep (fun k => w.heap.size ≤ k) w2 (rmany rtext N s1).1 [v] ∧ RdS 129 U w2 g (rmany rtext N s1).2 ∧ Fx (only g) w w2 := by
    rintro xs' s'' rfl rfl k1 k2
    exact ⟨k1.rep _ (fun _ hk => hk) (fun _ hk => hk), k2, f2⟩
  by_cases hlt : i < N
  · have z : (i : Int) < (N : Int) := by omega
    by_cases hw : s'.why = 0
    · have z1 : (s'.why == 0) = true := by rw [beq_iff_eq]; exact hw
      simp -implicitDefEqProofs only [go_sem, seval, g0, gv, gn, gi, z, z1, hb.cell]
      have hs2 := f2.size
      have hlt2 : ∀ k, U k → k < w2.heap.size := fun k hk => by have := hUlt k hk; omega
      have close : ∀ (w3 : World) (cs : List Value) (v2 : Value), v2.cells = cs.toArray → Kind.str.rep (fun k => w2.heap.size ≤ k) w3 (rtext s').1 cs → RdS 129 U w3 g (rtext s').2 → Fx (only g) w2 w3 → ∀ (K : Value → World → Prop),
          (∀ v' w5, OwnR Kind.str 9 (fun k => w.heap.size ≤ k) w.heap.size w5 v' (xs ++ [(rtext s').1]) → RdS 129 U w5 g (rtext s').2 → Fx (only g) w w5 → K v' w5) →
          appK Tryz.prog #[30, 30] 30 #[v, .slice (some (At w3.heap.size 0)) 1 1] (w3.alloc (.cells v2.cells 9)) K := by
        intro w3 cs v2 hv2 hr h3 f3 K hK
        have hs3 := f3.size
        have ho3 : OwnR Kind.str 9 (fun k => w.heap.size ≤ k) w.heap.size w3 v xs := ho.fx f3 (fun k hk _ e => by have : k = g := e; omega) (fun k hk e => by have := ho.lt hk; have : k = g := e; omega)
        have kA : Keep w3 (w3.alloc (.cells v2.cells 9)) := Fx.alloc _ w3 _
        have hbn := (Blk.new w3 9 v2.cells).cells
        rw [hv2] at hbn kA ⊢
        have ho4 := ho3.keep kA
        have h4 := h3.keep kA
        have hr4 := (Kind.str).keep hr kA
        have hs4 := kA.size
        generalize w3.alloc (.cells cs.toArray 9) = w4 at *
        refine append_ownR et30 rfl (by decide) ho4 ((Kind.str).mono hr4 fun k _ hk => ⟨by omega, fun e => by have := ho.lt e; omega⟩) hbn (by omega) (by simp only [maxLen]; omega) (by omega) ?_
        intro v' w5 ho5 f5
        refine hK v' w5 ho5 (h4.fx f5 (fun e => by have := ho4.lt e; omega) (fun k hk e => by have := ho4.lt e; have := hUlt k hk; omega)) ?_
        exact ((f2.tr f3).keep kA).new f5 (fun k e hk => by have := ho4.lt e; omega)
      have eI : IntKind.i64.wrap ((i : Int) + 1) = ((i + 1 : Nat) : Int) := i64_nat (by omega) (by omega)
      have again : (rmany rtext N s1).1 = (xs ++ [(rtext s').1]) ++ (rmany rtext (N - (i + 1)) (rtext s').2).1 ∧ (rmany rtext N s1).2 = (rmany rtext (N - (i + 1)) (rtext s').2).2 := by
        have hn : N - i = (N - (i + 1)) + 1 := by omega
        rw [e1, e2, hn]
        simp [rmany, hw]
      refine (refText_calls hU h2).mono ?_
      rintro v2 w3 ⟨rfl, hsz, h3, f3⟩
      simp -implicitDefEqProofs only [go_sem, seval]
      refine bsl_val et30 (by decide) (by decide) (v := .string (rtext s').1) rfl ?_
      simp -implicitDefEqProofs only [go_sem, seval, gv]
      refine close w3 _ (.string _) rfl ⟨rfl, hsz⟩ h3 f3 _ ?_
      intro v' w5 ho5 h5 f5
      simp -implicitDefEqProofs only [go_sem, seval, g0, gv, gn, gi, eI]
      exact ⟨N - (i + 1), by omega, i + 1, _, _, v', rfl, by omega, by simp -implicitDefEqProofs only [go_sem, seval, g0], by simp -implicitDefEqProofs only [go_sem, seval], by simp -implicitDefEqProofs only [go_sem, seval, gn], by simp -implicitDefEqProofs only [go_sem, seval], again.1, again.2, by simp [hl], ho5, h5, f5⟩
    · have z1 : (s'.why == 0) = false := by rw [beq_eq_false_iff_ne]; exact hw
      simp -implicitDefEqProofs only [go_sem, seval, g0, gv, gn, gi, z, z1, hb.cell]
      rw [many_stay hw] at e1 e2
      exact fin (by rw [e1]; simp) (by rw [e2]) ho h2
  · have z : ¬ (i : Int) < (N : Int) := by omega
    have hiN : N - i = 0 := by omega
    rw [hiN] at e1 e2
    simp -implicitDefEqProofs only [go_sem, seval, g0, gv, gn, gi, z]
    exact fin (by rw [e1]; simp [rmany]) (by rw [e2]; rfl) ho h2
theorem refItem_calls {U : Nat → Prop} {w : World} {g : Nat} {s : RS} (hU : ¬ U g) (hlt : ∀ k, U k → k < w.heap.size) (h : RdS 129 U w g s) :
    callK Tryz.prog 61 #[.pointer (some (At g 0))] w fun v w' => (∃ v1 v2, v = .agg #[.int .u32 (ritem s).1.id, v1, v2] ∧ kItem.rep (fun k => w.heap.size ≤ k) w' (ritem s).1 [.int .u32 (ritem s).1.id, v1, v2]) ∧ RdS 129 U w' g (ritem s).2 ∧ Fx (only g) w w' := by
  refine callK_of Tryz.func61 c61 r61 (by exact Nat.le_of_ble_eq_true rfl) ?_
  rw [m61]
  simp -implicitDefEqProofs only [go_sem, seval]
  have kA : Keep w (w.alloc (.cells #[.int .u32 0, .slice none 0 0, .slice none 0 0] 64)) := Fx.alloc _ w _
  have hb : Blk _ _ _ _ := Blk.new w 64 #[.int .u32 0, .slice none 0 0, .slice none 0 0]
  have h1 := h.keep kA
  have hs := size_alloc w (.cells #[.int .u32 0, .slice none 0 0, .slice none 0 0] 64)
  have hg := h.lt
  have r := rnum_range 4294967295 (by decide) s h.bs
  have e1 := u32_id r.1 r.2
  generalize w.alloc (.cells #[.int .u32 0, .slice none 0 0, .slice none 0 0] 64) = w1 at *
  obtain ⟨bx, hbx⟩ : ∃ bx, bx = w.heap.size := ⟨_, rfl⟩
  rw [← hbx] at hb ⊢
  refine (refNum_calls 4294967295 hU h1).mono ?_
  rintro v w2 ⟨rfl, h2, f2⟩
  have s2 := f2.size
  have hb2 := f2.blk hb (fun e => by have : bx = g := e; omega)
  have kB : Keep w2 (w2.alloc (.cells #[.int .u32 0, .slice none 0 0, .slice none 0 0] 64)) := Fx.alloc _ w2 _
  have hy : Blk _ _ _ _ := Blk.new w2 64 #[.int .u32 0, .slice none 0 0, .slice none 0 0]
  have S0 := stB (P := Tryz.prog) (o := 0) sz64 hy (by decide)
  have hy2 : Blk _ _ _ #[.int .u32 (rnum 4294967295 s).1, .slice none 0 0, .slice none 0 0] := hy.put 0 [.int .u32 (rnum 4294967295 s).1, .slice none 0 0, .slice none 0 0]
  simp -implicitDefEqProofs only [go_sem, seval, e1, S0]
  have sB := size_alloc w2 (.cells #[.int .u32 0, .slice none 0 0, .slice none 0 0] 64)
  have fP : Fx (only w2.heap.size) (w2.alloc (.cells #[.int .u32 0, .slice none 0 0, .slice none 0 0] 64)) (putW (w2.alloc (.cells #[.int .u32 0, .slice none 0 0, .slice none 0 0] 64)) w2.heap.size 0 [.int .u32 (rnum 4294967295 s).1, .slice none 0 0, .slice none 0 0]) := Fx.put _ _ _ _ rfl
  have k3 : Keep w2 _ := kB.new fP (fun k e hk => by have : k = w2.heap.size := e; omega)
  have s3 : (putW (w2.alloc (.cells #[.int .u32 0, .slice none 0 0, .slice none 0 0] 64)) w2.heap.size 0 [.int .u32 (rnum 4294967295 s).1, .slice none 0 0, .slice none 0 0]).heap.size = w2.heap.size + 1 := by rw [size_put]; exact sB
  generalize putW (w2.alloc (.cells #[.int .u32 0, .slice none 0 0, .slice none 0 0] 64)) w2.heap.size 0 [.int .u32 (rnum 4294967295 s).1, .slice none 0 0, .slice none 0 0] = w3 at *
  obtain ⟨y, hyy⟩ : ∃ y, y = w2.heap.size := ⟨_, rfl⟩
  rw [← hyy] at hy2 ⊢
  have h3 := h2.keep k3
  refine (refVec_calls hU (fun k hk => by have := hlt k hk; omega) h3).mono ?_
  rintro v1 w4 ⟨hv1, h4, f4⟩
  have s4 := f4.size
  have hy4 := f4.blk hy2 (fun e => by have : y = g := e; omega)
  have o1 := kVec.one hv1 v1 (by simp)
  simp -implicitDefEqProofs only [go_sem, seval, hy4.cell, hy4.frozen, o1]
  have hy5 := hy4.set 1 v1
  have f5 : Fx (only y) w4 (w4.setCell (At y 1) v1) := Fx.set _ _ _ rfl
  simp only [List.setIfInBounds_toArray, List.set_cons_succ, List.set_cons_zero] at hy5
  have h5 := h4.fx f5 (fun e => by have : g = y := e; omega) (fun k hk e => by have : k = y := e; have := hlt k hk; omega)
  have hv5 := kVec.fx hv1 f5 (fun k hk e => by have : k = y := e; omega)
  have s5 := f5.size
  generalize w4.setCell (At y 1) v1 = w5 at *
  refine (refTexts_calls hU (fun k hk => by have := hlt k hk; omega) h5).mono ?_
  rintro v2 w6 ⟨hv2, h6, f6⟩
  have s6 := f6.size
  have hy6 := f6.blk hy5 (fun e => by have : y = g := e; omega)
  have o2 := kTexts.one hv2 v2 (by simp)
  have hv6 := kVec.fx hv5 f6 (fun k hk e => by have : k = g := e; omega)
  have hb6 : Blk w6 bx 64 #[.int .u32 0, .slice none 0 0, .slice none 0 0] := f6.blk (f5.blk (f4.blk (k3.blk hb2 (fun x => x)) (fun e => by have : bx = g := e; omega)) (fun e => by have : bx = y := e; omega)) (fun e => by have : bx = g := e; omega)
  simp -implicitDefEqProofs only [go_sem, seval, hy6.cell, hy6.frozen, o2]
  have hy7 := hy6.set 2 v2
  have f7 : Fx (only y) w6 (w6.setCell (At y 2) v2) := Fx.set _ _ _ rfl
  simp only [List.setIfInBounds_toArray, List.set_cons_succ, List.set_cons_zero] at hy7
  have h7 := h6.fx f7 (fun e => by have : g = y := e; omega) (fun k hk e => by have : k = y := e; have := hlt k hk; omega)
  have hv7 := kVec.fx hv6 f7 (fun k hk e => by have : k = y := e; omega)
  have hu7 := kTexts.fx hv2 f7 (fun k hk e => by have : k = y := e; omega)
  have hb7 := f7.blk hb6 (fun e => by have : bx = y := e; omega)
  have s7 := f7.size
  generalize w6.setCell (At y 2) v2 = w7 at *
  have L1 : ldV Tryz.prog w7 64 (.pointer (some (At y 0))) = some (.agg #[.int .u32 (rnum 4294967295 s).1, v1, v2]) := ldV_agg sh64 rfl hy7.cells
  have S1 := stB (P := Tryz.prog) (o := 0) sz64 hb7 (by decide)
  have L2 := ldP (P := Tryz.prog) sh64 hb7 rfl
  simp -implicitDefEqProofs only [go_sem, seval, L1, S1, L2, o1, o2]
  have f8 : Fx (only bx) w7 (putW w7 bx 0 [.int .u32 (rnum 4294967295 s).1, v1, v2]) := Fx.put _ _ _ _ rfl
  have fG : Fx (only g) w w7 := (((((kA.fx _).tr f2).keep k3).tr f4).new f5 (fun k e hk => by have : k = y := e; omega) |>.tr f6).new f7 (fun k e hk => by have : k = y := e; omega)
  refine ⟨⟨v1, v2, rfl, ?_⟩, h7.fx f8 (fun e => by have : g = bx := e; omega) (fun k hk e => by have : k = bx := e; have := hlt k hk; omega), fG.new f8 (fun k e hk => by have : k = bx := e; omega)⟩
  exact kItem_mk (x := (ritem s).1) (wfU32 r.1 r.2) (kVec.mono (kVec.fx hv7 f8 (fun k hk e => by have : k = bx := e; omega)) (fun k _ hk => by omega)) (kTexts.mono (kTexts.fx hu7 f8 (fun k hk e => by have : k = bx := e; omega)) (fun k _ hk => by omega))
theorem refChanges_calls {U : Nat → Prop} {w : World} {g : Nat} {s : RS} (hU : ¬ U g) (hUlt : ∀ k, U k → k < w.heap.size) (h : RdS 129 U w g s) :
    callK Tryz.prog 58 #[.pointer (some (At g 0))] w fun v w' => (kChanges).rep (fun k => w.heap.size ≤ k) w' (rlist rchange s).1 [v] ∧ RdS 129 U w' g (rlist rchange s).2 ∧ Fx (only g) w w' := by
  refine callK_of Tryz.func58 c58 r58 (by exact Nat.le_of_ble_eq_true rfl) ?_
  rw [m58]
  simp -implicitDefEqProofs only [go_sem, seval]
  have hglt := h.lt
  refine (refNum_calls 128 hU h).mono ?_
  rintro v w1 ⟨rfl, h1, f1⟩
  have r := rnum_range 128 (by decide) s h.bs
  unfold rlist
  generalize rnum 128 s = q at *
  obtain ⟨n, s1⟩ := q
  simp only at r h1 ⊢
  obtain ⟨N, rfl⟩ := Int.eq_ofNat_of_zero_le r.1
  rw [Int.toNat_natCast]
  have eN : IntKind.i64.wrap (N : Int) = (N : Int) := i64_nat (by omega) (by omega)
  simp -implicitDefEqProofs only [go_sem, seval, eN]
  refine loop_intro (fun q f w' => ∃ (i : Nat) (xs : List _) (s' : RS) (v : Value), q = N - i ∧ i ≤ N ∧ f 0 = .pointer (some (At g 0)) ∧ f 3 = v ∧ f 4 = .int .i64 N ∧ f 5 = .int .i64 i ∧ (rmany rchange N s1).1 = xs ++ (rmany rchange (N - i) s').1 ∧ (rmany rchange N s1).2 = (rmany rchange (N - i) s').2 ∧ xs.length = i ∧
      OwnR kChange 99 (fun k => w.heap.size ≤ k) w.heap.size w' v xs ∧ RdS 129 U w' g s' ∧ Fx (only g) w w') N
    ⟨0, [], s1, _, rfl, by omega, by simp -implicitDefEqProofs only [go_sem, seval], by simp -implicitDefEqProofs only [go_sem, seval], by simp -implicitDefEqProofs only [go_sem, seval], by simp -implicitDefEqProofs only [go_sem, seval] <;> rfl, rfl, rfl, rfl, OwnR.nil _ _ _ _ _, h1, f1⟩ ?_
  rintro q f w2 ⟨i, xs, s', v, rfl, hi, g0, gv, gn, gi, e1, e2, hl, ho, h2, f2⟩
  obtain ⟨A, c, hb, hrest⟩ := id h2
  have fin : ∀ {xs' : List _} {s'' : RS}, (rmany rchange N s1).1 = xs' → (rmany rchange N s1).2 = s'' → OwnR kChange 99 (fun k => w.heap.size ≤ k) w.heap.size w2 v xs' → RdS 129 U w2 g s'' →
      (kChanges).rep (fun k => w.heap.size ≤ k) w2 (rmany rchange N s1).1 [v] ∧ RdS 129 U w2 g (rmany rchange N s1).2 ∧ Fx (only g) w w2 := by
    rintro xs' s'' rfl rfl k1 k2
    exact ⟨k1.rep _ (fun _ hk => hk) (fun _ hk => hk), k2, f2⟩
  by_cases hlt : i < N
  · have z : (i : Int) < (N : Int) := by omega
    by_cases hw : s'.why = 0
    · have z1 : (s'.why == 0) = true := by rw [beq_iff_eq]; exact hw
      simp -implicitDefEqProofs only [go_sem, seval, g0, gv, gn, gi, z, z1, hb.cell]
      have hs2 := f2.size
      have hlt2 : ∀ k, U k → k < w2.heap.size := fun k hk => by have := hUlt k hk; omega
      have close : ∀ (w3 : World) (cs : List Value) (v2 : Value), v2.cells = cs.toArray → kChange.rep (fun k => w2.heap.size ≤ k) w3 (rchange s').1 cs → RdS 129 U w3 g (rchange s').2 → Fx (only g) w2 w3 → ∀ (K : Value → World → Prop),
          (∀ v' w5, OwnR kChange 99 (fun k => w.heap.size ≤ k) w.heap.size w5 v' (xs ++ [(rchange s').1]) → RdS 129 U w5 g (rchange s').2 → Fx (only g) w w5 → K v' w5) →
          appK Tryz.prog #[28, 28] 28 #[v, .slice (some (At w3.heap.size 0)) 1 1] (w3.alloc (.cells v2.cells 99)) K := by
        intro w3 cs v2 hv2 hr h3 f3 K hK
        have hs3 := f3.size
        have ho3 : OwnR kChange 99 (fun k => w.heap.size ≤ k) w.heap.size w3 v xs := ho.fx f3 (fun k hk _ e => by have : k = g := e; omega) (fun k hk e => by have := ho.lt hk; have : k = g := e; omega)
        have kA : Keep w3 (w3.alloc (.cells v2.cells 99)) := Fx.alloc _ w3 _
        have hbn := (Blk.new w3 99 v2.cells).cells
        rw [hv2] at hbn kA ⊢
        have ho4 := ho3.keep kA
        have h4 := h3.keep kA
        have hr4 := (kChange).keep hr kA
        have hs4 := kA.size
        generalize w3.alloc (.cells cs.toArray 99) = w4 at *
        refine append_ownR et28 rfl (by decide) ho4 ((kChange).mono hr4 fun k _ hk => ⟨by omega, fun e => by have := ho.lt e; omega⟩) hbn (by omega) (by simp only [maxLen]; omega) (by omega) ?_
        intro v' w5 ho5 f5
        refine hK v' w5 ho5 (h4.fx f5 (fun e => by have := ho4.lt e; omega) (fun k hk e => by have := ho4.lt e; have := hUlt k hk; omega)) ?_
        exact ((f2.tr f3).keep kA).new f5 (fun k e hk => by have := ho4.lt e; omega)
      have eI : IntKind.i64.wrap ((i : Int) + 1) = ((i + 1 : Nat) : Int) := i64_nat (by omega) (by omega)
      have again : (rmany rchange N s1).1 = (xs ++ [(rchange s').1]) ++ (rmany rchange (N - (i + 1)) (rchange s').2).1 ∧ (rmany rchange N s1).2 = (rmany rchange (N - (i + 1)) (rchange s').2).2 := by
        have hn : N - i = (N - (i + 1)) + 1 := by omega
        rw [e1, e2, hn]
        simp [rmany, hw]
      refine (refNum_calls 1 hU h2).mono ?_
      rintro v2 w3 ⟨rfl, h3, f3⟩
      have s3 := f3.size
      obtain ⟨q, hq⟩ : ∃ q, ((rnum 1 s').1 == 1) = q := ⟨_, rfl⟩
      have hfl : rflag s' = (q, (rnum 1 s').2) := by unfold rflag; rw [hq]
      have kB : Keep w3 (w3.alloc (.cells #[.bool false, .int .u32 0, .slice none 0 0, .slice none 0 0] 99)) := Fx.alloc _ w3 _
      have hy : Blk _ _ _ _ := Blk.new w3 99 #[.bool false, .int .u32 0, .slice none 0 0, .slice none 0 0]
      have S0 := stB (P := Tryz.prog) (o := 0) sz99 hy (by decide)
      have hy2 : Blk _ _ _ #[.bool q, .int .u32 0, .slice none 0 0, .slice none 0 0] := hy.put 0 [.bool q, .int .u32 0, .slice none 0 0, .slice none 0 0]
      have sB := size_alloc w3 (.cells #[.bool false, .int .u32 0, .slice none 0 0, .slice none 0 0] 99)
      have fP : Fx (only w3.heap.size) (w3.alloc (.cells #[.bool false, .int .u32 0, .slice none 0 0, .slice none 0 0] 99)) (putW (w3.alloc (.cells #[.bool false, .int .u32 0, .slice none 0 0, .slice none 0 0] 99)) w3.heap.size 0 [.bool q, .int .u32 0, .slice none 0 0, .slice none 0 0]) := Fx.put _ _ _ _ rfl
      have k4 : Keep w3 _ := kB.new fP (fun k e hk => by have : k = w3.heap.size := e; omega)
      have s4 : (putW (w3.alloc (.cells #[.bool false, .int .u32 0, .slice none 0 0, .slice none 0 0] 99)) w3.heap.size 0 [.bool q, .int .u32 0, .slice none 0 0, .slice none 0 0]).heap.size = w3.heap.size + 1 := by rw [size_put]; exact sB
      have hglt3 := h3.lt
      have ech : rchange s' = if q = true then (⟨true, ⟨(rnum 4294967295 (rnum 1 s').2).1, [], []⟩⟩, (rnum 4294967295 (rnum 1 s').2).2) else (⟨false, (ritem (rnum 1 s').2).1⟩, (ritem (rnum 1 s').2).2) := by
        unfold rchange
        rw [hfl]
      cases q with
      | true =>
        simp -implicitDefEqProofs only [go_sem, seval, hq, S0, hy2.cell, g0, gv]
        generalize putW (w3.alloc (.cells #[.bool false, .int .u32 0, .slice none 0 0, .slice none 0 0] 99)) w3.heap.size 0 [.bool true, .int .u32 0, .slice none 0 0, .slice none 0 0] = w4 at *
        obtain ⟨y, hyy⟩ : ∃ y, y = w3.heap.size := ⟨_, rfl⟩
        rw [← hyy] at hy2 ⊢
        have h4 := h3.keep k4
        have r4 := rnum_range 4294967295 (by decide) (rnum 1 s').2 h4.bs
        have e4 := u32_id r4.1 r4.2
        refine (refNum_calls 4294967295 hU h4).mono ?_
        rintro v2 w5 ⟨rfl, h5, f5⟩
        have hy5 := f5.blk hy2 (fun e => by have : y = g := e; omega)
        simp -implicitDefEqProofs only [go_sem, seval, e4, hy5.cell, hy5.frozen]
        have hy6 := hy5.set 1 (.int .u32 (rnum 4294967295 (rnum 1 s').2).1)
        have f6 : Fx (only y) w5 (w5.setCell (At y 1) (.int .u32 (rnum 4294967295 (rnum 1 s').2).1)) := Fx.set _ _ _ rfl
        simp only [List.setIfInBounds_toArray, List.set_cons_succ, List.set_cons_zero] at hy6
        have h6 := h5.fx f6 (fun e => by have : g = y := e; omega) (fun k hk e => by have : k = y := e; have := hlt2 k hk; omega)
        generalize w5.setCell (At y 1) (.int .u32 (rnum 4294967295 (rnum 1 s').2).1) = w6 at *
        have L1 : ldV Tryz.prog w6 99 (.pointer (some (At y 0))) = some (.agg #[.bool true, .int .u32 (rnum 4294967295 (rnum 1 s').2).1, .slice none 0 0, .slice none 0 0]) := ldV_agg sh99 rfl hy6.cells
        simp -implicitDefEqProofs only [go_sem, seval, gv, L1]
        refine bsl_val et28 (by decide) (by decide) (v := .agg #[.bool true, .int .u32 (rnum 4294967295 (rnum 1 s').2).1, .slice none 0 0, .slice none 0 0]) rfl ?_
        simp -implicitDefEqProofs only [go_sem, seval, gv]
        rw [if_pos rfl] at ech
        rw [ech] at close again
        refine close w6 [.bool true, .int .u32 (rnum 4294967295 (rnum 1 s').2).1, .slice none 0 0, .slice none 0 0] (.agg #[.bool true, .int .u32 (rnum 4294967295 (rnum 1 s').2).1, .slice none 0 0, .slice none 0 0]) rfl (kChange_mk (x := ⟨true, ⟨_, [], []⟩⟩) (kItem_mk (wfU32 r4.1 r4.2) (nil_rep _ _) (nil_rep _ _))) h6 (((f3.keep k4).tr f5).new f6 (fun k e hk => by have : k = y := e; omega)) _ ?_
        intro v' w9 ho9 h9 f9
        simp -implicitDefEqProofs only [go_sem, seval, g0, gv, gn, gi, eI]
        exact ⟨N - (i + 1), by omega, i + 1, _, _, v', rfl, by omega, by simp -implicitDefEqProofs only [go_sem, seval, g0], by simp -implicitDefEqProofs only [go_sem, seval], by simp -implicitDefEqProofs only [go_sem, seval, gn], by simp -implicitDefEqProofs only [go_sem, seval], again.1, again.2, by simp [hl], ho9, h9, f9⟩
      | false =>
        simp -implicitDefEqProofs only [go_sem, seval, hq, S0, hy2.cell, g0, gv]
        generalize putW (w3.alloc (.cells #[.bool false, .int .u32 0, .slice none 0 0, .slice none 0 0] 99)) w3.heap.size 0 [.bool false, .int .u32 0, .slice none 0 0, .slice none 0 0] = w4 at *
        obtain ⟨y, hyy⟩ : ∃ y, y = w3.heap.size := ⟨_, rfl⟩
        rw [← hyy] at hy2 ⊢
        have h4 := h3.keep k4
        refine (refItem_calls hU (fun k hk => by have := hlt2 k hk; omega) h4).mono ?_
        rintro v2 w5 ⟨⟨v1, v2, rfl, hr⟩, h5, f5⟩
        have hy5 := f5.blk hy2 (fun e => by have : y = g := e; omega)
        have o1 := kItem.one hr v1 (by simp)
        have o2 := kItem.one hr v2 (by simp)
        have S1 := stB (P := Tryz.prog) (o := 1) sz64 hy5 (by decide)
        simp -implicitDefEqProofs only [go_sem, seval, o1, o2, S1]
        have hy6 : Blk _ _ _ #[.bool false, .int .u32 (ritem (rnum 1 s').2).1.id, v1, v2] := hy5.put 1 [.int .u32 (ritem (rnum 1 s').2).1.id, v1, v2]
        have f6 : Fx (only y) w5 (putW w5 y 1 [.int .u32 (ritem (rnum 1 s').2).1.id, v1, v2]) := Fx.put _ _ _ _ rfl
        have h6 := h5.fx f6 (fun e => by have : g = y := e; omega) (fun k hk e => by have : k = y := e; have := hlt2 k hk; omega)
        have hr6 := kItem.fx hr f6 (fun k hk e => by have : k = y := e; omega)
        generalize putW w5 y 1 [.int .u32 (ritem (rnum 1 s').2).1.id, v1, v2] = w6 at *
        have L1 : ldV Tryz.prog w6 99 (.pointer (some (At y 0))) = some (.agg #[.bool false, .int .u32 (ritem (rnum 1 s').2).1.id, v1, v2]) := ldV_agg sh99 rfl hy6.cells
        simp -implicitDefEqProofs only [go_sem, seval, gv, L1]
        refine bsl_val et28 (by decide) (by decide) (v := .agg #[.bool false, .int .u32 (ritem (rnum 1 s').2).1.id, v1, v2]) rfl ?_
        simp -implicitDefEqProofs only [go_sem, seval, gv]
        rw [if_neg (by decide)] at ech
        rw [ech] at close again
        refine close w6 [.bool false, .int .u32 (ritem (rnum 1 s').2).1.id, v1, v2] (.agg #[.bool false, .int .u32 (ritem (rnum 1 s').2).1.id, v1, v2]) rfl (kChange_mk (x := ⟨false, (ritem (rnum 1 s').2).1⟩) (kItem.mono hr6 (fun k _ hk => by omega))) h6 (((f3.keep k4).tr f5).new f6 (fun k e hk => by have : k = y := e; omega)) _ ?_
        intro v' w9 ho9 h9 f9
        simp -implicitDefEqProofs only [go_sem, seval, g0, gv, gn, gi, eI]
        exact ⟨N - (i + 1), by omega, i + 1, _, _, v', rfl, by omega, by simp -implicitDefEqProofs only [go_sem, seval, g0], by simp -implicitDefEqProofs only [go_sem, seval], by simp -implicitDefEqProofs only [go_sem, seval, gn], by simp -implicitDefEqProofs only [go_sem, seval], again.1, again.2, by simp [hl], ho9, h9, f9⟩
    · have z1 : (s'.why == 0) = false := by rw [beq_eq_false_iff_ne]; exact hw
      simp -implicitDefEqProofs only [go_sem, seval, g0, gv, gn, gi, z, z1, hb.cell]
      rw [many_stay hw] at e1 e2
      exact fin (by rw [e1]; simp) (by rw [e2]) ho h2
  · have z : ¬ (i : Int) < (N : Int) := by omega
    have hiN : N - i = 0 := by omega
    rw [hiN] at e1 e2
    simp -implicitDefEqProofs only [go_sem, seval, g0, gv, gn, gi, z]
    exact fin (by rw [e1]; simp [rmany]) (by rw [e2]; rfl) ho h2
end Go.Proofs.YtnlibeaainbipaaGreat.F
