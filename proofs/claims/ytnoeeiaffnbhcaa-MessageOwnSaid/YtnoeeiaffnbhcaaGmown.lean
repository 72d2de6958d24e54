/- The law that what was read shares nothing with the bytes. Conditions: those of its row. -/
import Derived.Test.YtnoeeiaffnbhcaaGmlive
import Derived.Test.YtnoeeiaffnbhcaaGmgreat
import Derived.Test.YtnoeeiaffnbhcaaGputeq
import Derived.Test.YtnoeeiaffnbhcaaGmsame
import Derived.Test.YtnoeeiaffnbhcaaMfnq
namespace Go.Proofs.Ytnoeeiaffnbhcaa.F
open Go.RowKit Go.Proofs.Ytnoeeiaffnbhcaa.M Go.Proofs.Ytnoeeiaffnbhcaa.V
set_option linter.unusedSimpArgs false
set_option linter.unusedVariables false
set_option maxRecDepth 20000
/-- One place of a row of the call's own is written. -/
theorem own_set {e : TypeId} {kd : IntKind} {b : Nat} {w : World} {A : Option Addr} {n c : Nat} {xs : List Int} (h : OwnI e kd b w (.slice A n c) xs) {i : Nat} (hi : i < xs.length) :
    ∃ g, A = some (At g 0) ∧ b ≤ g ∧ g < w.heap.size ∧ w.cell? (At g i) = some (.int kd xs[i]) ∧ w.frozen? (At g i) = false ∧
      ∀ x, OwnI e kd b (w.setCell (At g i) (.int kd x)) (.slice A n c) (xs.set i x) := by
  have hcell := fun g => World.ownsRow.cells h (g := g)
  rcases h.2 with ⟨hv, hn⟩ | ⟨g, cap, cur, hv, hb, hg, hc, hm, hs, ht⟩
  · omega
  · injection hv with h1 h2 h3
    have hB : Blk w g e cur := hg
    refine ⟨g, h1, hb, hB.lt, ?_, hB.frozen i, fun x => ?_⟩
    · have := hcell g (by rw [h1]; rfl) i (.int kd xs[i]) (by rw [List.getElem?_map, List.getElem?_eq_getElem hi]; rfl)
      rwa [at_add, Nat.zero_add] at this
    · refine ⟨by simp, .inr ⟨g, cap, cur.setIfInBounds i (.int kd x), ?_, hb, hB.set i _, by simpa using hc, hm, by simpa using hs, ?_⟩⟩
      · rw [h1, h2, h3, List.length_set]
      · rw [List.length_set]
        simp only [Array.toList_setIfInBounds, Nat.mul_one, List.map_set] at ht ⊢
        rw [← ht, List.take_set]
theorem own_apart {e e' : TypeId} {kd kd' : IntKind} {b b' : Nat} {w : World} {u v : Value} {xs ys : List Int} (h : OwnI e kd b w u xs) (h' : OwnI e' kd' b' w v ys) (hne : e' ≠ e) {k : Nat} (hk : v.ownBlock = some k) : u.ownBlock ≠ some k := by
  rcases h'.2 with ⟨hv, _⟩ | ⟨g, cap, cur, hv, hb, hg, _⟩
  · rw [hv] at hk; cases hk
  · rw [hv] at hk
    cases hk
    exact h.ne (show Blk w g e' cur from hg) hne
theorem own_le {e : TypeId} {kd : IntKind} {b : Nat} {w : World} {v : Value} {xs : List Int} (h : OwnI e kd b w v xs) : xs.length ≤ maxLen := by
  rcases h.2 with ⟨_, hn⟩ | ⟨g, cap, cur, hv, hb, hg, hc, hm, _⟩
  · rw [hn]; exact Nat.zero_le _
  · omega
theorem store_cells {w : World} {cs : List Value} (hcl : cs.length = 28) (h1 : allOne cs = true) : ∃ w2, stV Try.prog (w.alloc (.cells #[.int .u8 0, .int .u32 0, .int .u32 0, .int .u64 0, .int .u8 0, .int .u32 0, .string ⟨#[]⟩, .string ⟨#[]⟩, .int .u8 0, .int .u8 0, .bool false, .int .u8 0, .int .u16 0, .slice none 0 0, .int .u32 0, .slice none 0 0, .int .u16 0, .int .u16 0, .slice none 0 0, .slice none 0 0, .slice none 0 0, .int .u32 0, .int .u32 0, .slice none 0 0, .int .u64 0, .slice none 0 0, .slice none 0 0, .slice none 0 0] 37)) 37 (.pointer (some (At w.heap.size 0))) (.agg (List.toArray cs)) = some w2 ∧
    Blk w2 w.heap.size 37 cs.toArray ∧ Keep w w2 ∧ w2.heap.size = w.heap.size + 1 := by
  have hb : Blk _ _ _ _ := Blk.new w 37 #[.int .u8 0, .int .u32 0, .int .u32 0, .int .u64 0, .int .u8 0, .int .u32 0, .string ⟨#[]⟩, .string ⟨#[]⟩, .int .u8 0, .int .u8 0, .bool false, .int .u8 0, .int .u16 0, .slice none 0 0, .int .u32 0, .slice none 0 0, .int .u16 0, .int .u16 0, .slice none 0 0, .slice none 0 0, .slice none 0 0, .int .u32 0, .int .u32 0, .slice none 0 0, .int .u64 0, .slice none 0 0, .slice none 0 0, .slice none 0 0]
  have S0 := stB (P := Try.prog) (o := 0) sz37 hb (by decide) cs hcl h1
  have hb2 := hb.put 0 cs
  rw [putC_all (by simp [hcl])] at hb2
  exact ⟨_, S0, hb2, (Fx.alloc (fun _ => False) w _).new (Fx.put (m := only w.heap.size) _ _ _ _ rfl) (fun k e hk => by have : k = w.heap.size := e; omega), by rw [size_put, size_alloc]⟩
theorem own_walk {w : World} {x : Msg} {cs : List Value} (hx : kMsg.rep (fun k => k < w.heap.size) w x cs) :
    callK Try.prog 8 #[.agg cs.toArray] w fun v w' => v = .bool true ∧ Keep w w' := by
  refine callK_of Try.func8 c8 r8 (by exact Nat.le_of_ble_eq_true rfl) ?_
  rw [m8]
  simp -implicitDefEqProofs only [go_sem, ↓reduceIte, Nat.reduceEqDiff, Int.reduceLT, Nat.reduceLT, Int.reduceToNat, Int.reducePow, Nat.reduceAdd, Int.reduceEq, Nat.reduceLeDiff, Int.reduceLE]
  have hM1 : MsgAt 37 (fun k => k < w.heap.size) (w.alloc (.cells cs.toArray 37)) w.heap.size x := ⟨cs, Blk.new w _ _, kMsg.keep hx (Fx.alloc _ _ _)⟩
  have kA : Keep w (w.alloc (.cells cs.toArray 37)) := Fx.alloc _ w _
  have s1 := size_alloc w (.cells cs.toArray 37)
  generalize w.alloc (.cells cs.toArray 37) = w1 at *
  obtain ⟨b0, hb0⟩ : ∃ b0, b0 = w.heap.size := ⟨_, rfl⟩
  rw [← hb0] at hM1 s1 ⊢
  refine (alive_calls w1).mono ?_
  rintro v w2 ⟨rfl, k2⟩
  have hM2 := hM1.keep k2
  have kk2 := kA.tr k2
  obtain ⟨cs2, ld2, hr2⟩ := msg_load hM2
  simp -implicitDefEqProofs only [go_sem, ↓reduceIte, Nat.reduceEqDiff, Int.reduceLT, Nat.reduceLT, Int.reduceToNat, Int.reducePow, Nat.reduceAdd, Int.reduceEq, Nat.reduceLeDiff, Int.reduceLE, ld2]
  refine (greatMsg_calls hr2).mono ?_
  rintro v w3 ⟨⟨q, rfl⟩, k3⟩
  have hM3 := hM2.keep k3
  have kk3 := kk2.tr k3
  have s3 : b0 + 1 ≤ w3.heap.size := by have := (k2.tr k3).size; omega
  cases q with
  | true =>
    simp -implicitDefEqProofs only [go_sem, ↓reduceIte, Nat.reduceEqDiff, Int.reduceLT, Nat.reduceLT, Int.reduceToNat, Int.reducePow, Nat.reduceAdd, Int.reduceEq, Nat.reduceLeDiff, Int.reduceLE]
    exact ⟨trivial, kk3⟩
  | false =>
  obtain ⟨cs3, ld3, hr3⟩ := msg_load hM3
  simp -implicitDefEqProofs only [go_sem, ↓reduceIte, Nat.reduceEqDiff, Int.reduceLT, Nat.reduceLT, Int.reduceToNat, Int.reducePow, Nat.reduceAdd, Int.reduceEq, Nat.reduceLeDiff, Int.reduceLE, ld3]
  refine (put_msg_calls (kMsg.mono hr3 fun k hk _ => hk)).mono ?_
  rintro v w4 ⟨hv, k4⟩
  have hM4 := hM3.keep k4
  have kk4 := kk3.tr k4
  have s4 := k4.size
  rcases hv with ⟨hno, rfl⟩ | ⟨hok, v1, rfl, ho⟩
  · simp -implicitDefEqProofs only [go_sem, ↓reduceIte, Nat.reduceEqDiff, Int.reduceLT, Nat.reduceLT, Int.reduceToNat, Int.reducePow, Nat.reduceAdd, Int.reduceEq, Nat.reduceLeDiff, Int.reduceLE]
    exact ⟨trivial, kk4⟩
  obtain ⟨cs4, ld4, hr4⟩ := msg_load hM4
  have hRm := rmsg_of hr4
  have hro := round hRm hok
  have hbs : Bs (putMsg x).2.b := by
    cases hf : form x.kind with
    | none => have := hok.1; unfold putMsg at this; rw [hf] at this; cases this
    | some l =>
      rw [put_bytes hRm hf hok]
      intro b hb
      obtain ⟨f, hf2, hb⟩ := List.mem_flatMap.1 hb
      exact (fc f).c.bs _ (((putOk_iff hRm hf).1 hok).2 f hf2) b hb
  generalize (putMsg x).2.b = bs at *
  obtain ⟨v, hck, _, hv, hwf⟩ := hM4.cell lnKind rfl
  simp only [List.cons.injEq, and_true] at hv
  subst hv
  obtain ⟨n0, n1⟩ := wf_u8' hwf
  obtain ⟨A, c, rfl, hc, hr⟩ := ho.slice
  obtain ⟨hcm, he⟩ := elems_own ho hbs
  simp -implicitDefEqProofs only [go_sem, ↓reduceIte, Nat.reduceEqDiff, Int.reduceLT, Nat.reduceLT, Int.reduceToNat, Int.reducePow, Nat.reduceAdd, Int.reduceEq, Nat.reduceLeDiff, Int.reduceLE, hck]
  refine (get_msg_calls n0 n1 hc hcm (he.mono Nat.zero_lt_one fun k hk _ => hk)).mono ?_
  rw [hro]
  rintro v w5 ⟨cs5, rfl, hr5, k5⟩
  obtain ⟨w6, S6, hY6, k6, s6⟩ := store_msg hr5
  have s5 := k5.size
  have hX6 := (hM4.keep k5).keep k6
  have kk6 := (kk4.tr k5).tr k6
  obtain ⟨yb, hyb⟩ : ∃ yb, yb = w5.heap.size := ⟨_, rfl⟩
  obtain ⟨v, hck6, _, hv, _⟩ := hX6.cell lnKind rfl
  simp only [List.cons.injEq, and_true] at hv
  subst hv
  simp -implicitDefEqProofs only [go_sem, ↓reduceIte, Nat.reduceEqDiff, Int.reduceLT, Nat.reduceLT, Int.reduceToNat, Int.reducePow, Nat.reduceAdd, Int.reduceEq, Nat.reduceLeDiff, Int.reduceLE, S6, hck6]
  refine (get_own_calls n0 n1 hc hcm ((he.keep (k5.tr k6)).mono Nat.zero_lt_one fun k hk _ => hk)).mono ?_
  rw [hro]
  rintro v w7 ⟨cs7, rfl, hr7, hO7, k7⟩
  have hr7 : kMsg.rep (fun k => w6.heap.size ≤ k) w7 x cs7 := hr7
  have hO7 : OwnIn w6.heap.size w7 cs7 x := hO7
  obtain ⟨w8, S8, hZ8, k8, s8⟩ := store_cells (w := w7) (kMsg.len hr7) (allOne_of (kMsg.one hr7))
  have s7 := k7.size
  have hY8 := (hY6.keep k7).keep k8
  have hX8 := (hX6.keep k7).keep k8
  have kk8 := (kk6.tr k7).tr k8
  obtain ⟨vv, vb, c15, ov, c23, ob⟩ := hO7
  have lv : ∀ k, vv.ownBlock = some k → w6.heap.size ≤ k ∧ k < w7.heap.size := fun k h => ov.lt h.symm
  have lb : ∀ k, vb.ownBlock = some k → w6.heap.size ≤ k ∧ k < w7.heap.size := fun k h => ob.lt h.symm
  have ov := ov.fx k8 (fun _ _ h => h)
  have ob := ob.fx k8 (fun _ _ h => h)
  have ho8 := ho.fx (((k5.tr k6).tr k7).tr k8) (fun _ _ h => h)
  obtain ⟨zb, hzb⟩ : ∃ zb, zb = w7.heap.size := ⟨_, rfl⟩
  simp -implicitDefEqProofs only [go_sem, ↓reduceIte, Nat.reduceEqDiff, Int.reduceLT, Nat.reduceLT, Int.reduceToNat, Int.reducePow, Nat.reduceAdd, Int.reduceEq, Nat.reduceLeDiff, Int.reduceLE, S8]
  rw [← hyb] at hY8 s6 ⊢
  rw [← hzb] at hZ8 s8 lv lb ⊢
  simp only [maxLen] at hcm
  obtain ⟨A2, c2, rfl, _, _⟩ := ob.slice
  obtain ⟨A3, c3, rfl, _, _⟩ := ov.slice
  have hd8 : w8.heap.size = zb + 1 := by omega
  refine loop_intro (fun q f w' => ∃ (i : Nat) (ys : List Int), q = bs.length - i ∧ i ≤ bs.length ∧ f 1 = .pointer (some (At b0 0)) ∧ f 3 = .slice A bs.length c ∧ f 5 = .pointer (some (At yb 0)) ∧ f 6 = .int .i64 0 ∧ f 7 = .pointer (some (At zb 0)) ∧ f 8 = .int .i64 0 ∧ f 9 = .int .i64 i ∧
      ys.length = bs.length ∧ OwnI 5 .u8 w3.heap.size w' (.slice A bs.length c) ys ∧ Fx (fun k => w3.heap.size ≤ k ∧ k < w4.heap.size) w8 w') bs.length
    ⟨0, bs, rfl, by omega, by simp -implicitDefEqProofs only [go_sem, ↓reduceIte, Nat.reduceEqDiff, Int.reduceLT, Nat.reduceLT, Int.reduceToNat, Int.reducePow, Nat.reduceAdd, Int.reduceEq, Nat.reduceLeDiff, Int.reduceLE], by simp -implicitDefEqProofs only [go_sem, ↓reduceIte, Nat.reduceEqDiff, Int.reduceLT, Nat.reduceLT, Int.reduceToNat, Int.reducePow, Nat.reduceAdd, Int.reduceEq, Nat.reduceLeDiff, Int.reduceLE], by simp -implicitDefEqProofs only [go_sem, ↓reduceIte, Nat.reduceEqDiff, Int.reduceLT, Nat.reduceLT, Int.reduceToNat, Int.reducePow, Nat.reduceAdd, Int.reduceEq, Nat.reduceLeDiff, Int.reduceLE], by simp -implicitDefEqProofs only [go_sem, ↓reduceIte, Nat.reduceEqDiff, Int.reduceLT, Nat.reduceLT, Int.reduceToNat, Int.reducePow, Nat.reduceAdd, Int.reduceEq, Nat.reduceLeDiff, Int.reduceLE], by simp -implicitDefEqProofs only [go_sem, ↓reduceIte, Nat.reduceEqDiff, Int.reduceLT, Nat.reduceLT, Int.reduceToNat, Int.reducePow, Nat.reduceAdd, Int.reduceEq, Nat.reduceLeDiff, Int.reduceLE], by simp -implicitDefEqProofs only [go_sem, ↓reduceIte, Nat.reduceEqDiff, Int.reduceLT, Nat.reduceLT, Int.reduceToNat, Int.reducePow, Nat.reduceAdd, Int.reduceEq, Nat.reduceLeDiff, Int.reduceLE], by simp -implicitDefEqProofs only [go_sem, ↓reduceIte, Nat.reduceEqDiff, Int.reduceLT, Nat.reduceLT, Int.reduceToNat, Int.reducePow, Nat.reduceAdd, Int.reduceEq, Nat.reduceLeDiff, Int.reduceLE]; rfl, rfl, ho8, Fx.refl _ _⟩ ?_
  rintro q f w9 ⟨i, ys, rfl, hi, g1, g3, g5, g6, g7, g8, g9, hyl, o9, f9⟩
  by_cases hlt : i < bs.length
  · have i0 : (0 : Int) ≤ (i : Int) := by omega
    have i1 : (i : Int) < (bs.length : Int) := by omega
    have en : IntKind.i64.wrap ((i : Int) + 1) = ((i + 1 : Nat) : Int) := i64_nat (by omega) (by omega)
    obtain ⟨g, rfl, hg1, hg2, hcell, hfz, hset⟩ := own_set o9 (i := i) (by omega)
    have hg4 : g < w4.heap.size := (ho.lt (k := g) rfl).2
    simp -implicitDefEqProofs only [go_sem, ↓reduceIte, Nat.reduceEqDiff, Int.reduceLT, Nat.reduceLT, Int.reduceToNat, Int.reducePow, Nat.reduceAdd, Int.reduceEq, Nat.reduceLeDiff, Int.reduceLE, g1, g3, g5, g6, g7, g8, g9, i0, i1, hcell, hfz, en]
    exact ⟨bs.length - (i + 1), by omega, i + 1, _, rfl, by omega, by simp -implicitDefEqProofs only [go_sem, ↓reduceIte, Nat.reduceEqDiff, Int.reduceLT, Nat.reduceLT, Int.reduceToNat, Int.reducePow, Nat.reduceAdd, Int.reduceEq, Nat.reduceLeDiff, Int.reduceLE, g1], by simp -implicitDefEqProofs only [go_sem, ↓reduceIte, Nat.reduceEqDiff, Int.reduceLT, Nat.reduceLT, Int.reduceToNat, Int.reducePow, Nat.reduceAdd, Int.reduceEq, Nat.reduceLeDiff, Int.reduceLE, g3], by simp -implicitDefEqProofs only [go_sem, ↓reduceIte, Nat.reduceEqDiff, Int.reduceLT, Nat.reduceLT, Int.reduceToNat, Int.reducePow, Nat.reduceAdd, Int.reduceEq, Nat.reduceLeDiff, Int.reduceLE, g5], by simp -implicitDefEqProofs only [go_sem, ↓reduceIte, Nat.reduceEqDiff, Int.reduceLT, Nat.reduceLT, Int.reduceToNat, Int.reducePow, Nat.reduceAdd, Int.reduceEq, Nat.reduceLeDiff, Int.reduceLE, g6], by simp -implicitDefEqProofs only [go_sem, ↓reduceIte, Nat.reduceEqDiff, Int.reduceLT, Nat.reduceLT, Int.reduceToNat, Int.reducePow, Nat.reduceAdd, Int.reduceEq, Nat.reduceLeDiff, Int.reduceLE, g7], by simp -implicitDefEqProofs only [go_sem, ↓reduceIte, Nat.reduceEqDiff, Int.reduceLT, Nat.reduceLT, Int.reduceToNat, Int.reducePow, Nat.reduceAdd, Int.reduceEq, Nat.reduceLeDiff, Int.reduceLE, g8], by simp -implicitDefEqProofs only [go_sem, ↓reduceIte, Nat.reduceEqDiff, Int.reduceLT, Nat.reduceLT, Int.reduceToNat, Int.reducePow, Nat.reduceAdd, Int.reduceEq, Nat.reduceLeDiff, Int.reduceLE], by rw [List.length_set]; exact hyl, hset _, f9.new (Fx.set (m := only g) _ _ _ rfl) (fun k e hk => by have : k = g := e; subst this; exact ⟨hg1, hg4⟩)⟩
  · have i1 : ¬ (i : Int) < (bs.length : Int) := by omega
    have ob9 := ob.fx f9 (fun k hk e => by have := (ob.lt hk).1; omega)
    have ov9 := ov.fx f9 (fun k hk e => by have := (ov.lt hk).1; omega)
    have hZ9 := f9.blk hZ8 (fun e => by omega)
    have hb1 := own_le ob
    have hv1 := own_le ov
    simp only [maxLen] at hb1 hv1
    simp -implicitDefEqProofs only [go_sem, ↓reduceIte, Nat.reduceEqDiff, Int.reduceLT, Nat.reduceLT, Int.reduceToNat, Int.reducePow, Nat.reduceAdd, Int.reduceEq, Nat.reduceLeDiff, Int.reduceLE, g1, g3, g5, g6, g7, g8, g9, i1]
    refine loop_intro (fun q f w' => ∃ (i : Nat) (ys : List Int), q = x.bytes.length - i ∧ i ≤ x.bytes.length ∧ f 1 = .pointer (some (At b0 0)) ∧ f 5 = .pointer (some (At yb 0)) ∧ f 6 = .int .i64 0 ∧ f 7 = .pointer (some (At zb 0)) ∧ f 8 = .int .i64 0 ∧ f 10 = .int .i64 i ∧
        ys.length = x.bytes.length ∧ OwnI 5 .u8 w6.heap.size w' (.slice A2 x.bytes.length c2) ys ∧ Fx (fun k => (Value.slice A2 x.bytes.length c2).ownBlock = some k) w9 w') x.bytes.length
      ⟨0, x.bytes, rfl, by omega, by simp -implicitDefEqProofs only [go_sem, ↓reduceIte, Nat.reduceEqDiff, Int.reduceLT, Nat.reduceLT, Int.reduceToNat, Int.reducePow, Nat.reduceAdd, Int.reduceEq, Nat.reduceLeDiff, Int.reduceLE, g1], by simp -implicitDefEqProofs only [go_sem, ↓reduceIte, Nat.reduceEqDiff, Int.reduceLT, Nat.reduceLT, Int.reduceToNat, Int.reducePow, Nat.reduceAdd, Int.reduceEq, Nat.reduceLeDiff, Int.reduceLE, g5], by simp -implicitDefEqProofs only [go_sem, ↓reduceIte, Nat.reduceEqDiff, Int.reduceLT, Nat.reduceLT, Int.reduceToNat, Int.reducePow, Nat.reduceAdd, Int.reduceEq, Nat.reduceLeDiff, Int.reduceLE, g6], by simp -implicitDefEqProofs only [go_sem, ↓reduceIte, Nat.reduceEqDiff, Int.reduceLT, Nat.reduceLT, Int.reduceToNat, Int.reducePow, Nat.reduceAdd, Int.reduceEq, Nat.reduceLeDiff, Int.reduceLE, g7], by simp -implicitDefEqProofs only [go_sem, ↓reduceIte, Nat.reduceEqDiff, Int.reduceLT, Nat.reduceLT, Int.reduceToNat, Int.reducePow, Nat.reduceAdd, Int.reduceEq, Nat.reduceLeDiff, Int.reduceLE, g8], by simp -implicitDefEqProofs only [go_sem, ↓reduceIte, Nat.reduceEqDiff, Int.reduceLT, Nat.reduceLT, Int.reduceToNat, Int.reducePow, Nat.reduceAdd, Int.reduceEq, Nat.reduceLeDiff, Int.reduceLE]; rfl, rfl, ob9, Fx.refl _ _⟩ ?_
    rintro q f wa ⟨i, ys, rfl, hi, g1, g5, g6, g7, g8, g10, hyl, oa, fa⟩
    have hZa := fa.blk hZ9 (fun e => by have := lb _ e; omega)
    have hca : wa.cell? (At zb 23) = some (.slice A2 x.bytes.length c2) := by rw [hZa.cell]; simpa using c23
    by_cases hlt : i < x.bytes.length
    · have i0 : (0 : Int) ≤ (i : Int) := by omega
      have i1 : (i : Int) < (x.bytes.length : Int) := by omega
      have en : IntKind.i64.wrap ((i : Int) + 1) = ((i + 1 : Nat) : Int) := i64_nat (by omega) (by omega)
      obtain ⟨g, rfl, hg1, hg2, hcell, hfz, hset⟩ := own_set oa (i := i) (by omega)
      simp -implicitDefEqProofs only [go_sem, ↓reduceIte, Nat.reduceEqDiff, Int.reduceLT, Nat.reduceLT, Int.reduceToNat, Int.reducePow, Nat.reduceAdd, Int.reduceEq, Nat.reduceLeDiff, Int.reduceLE, g1, g5, g6, g7, g8, g10, hca, i0, i1, hcell, hfz, en]
      exact ⟨x.bytes.length - (i + 1), by omega, i + 1, _, rfl, by omega, by simp -implicitDefEqProofs only [go_sem, ↓reduceIte, Nat.reduceEqDiff, Int.reduceLT, Nat.reduceLT, Int.reduceToNat, Int.reducePow, Nat.reduceAdd, Int.reduceEq, Nat.reduceLeDiff, Int.reduceLE, g1], by simp -implicitDefEqProofs only [go_sem, ↓reduceIte, Nat.reduceEqDiff, Int.reduceLT, Nat.reduceLT, Int.reduceToNat, Int.reducePow, Nat.reduceAdd, Int.reduceEq, Nat.reduceLeDiff, Int.reduceLE, g5], by simp -implicitDefEqProofs only [go_sem, ↓reduceIte, Nat.reduceEqDiff, Int.reduceLT, Nat.reduceLT, Int.reduceToNat, Int.reducePow, Nat.reduceAdd, Int.reduceEq, Nat.reduceLeDiff, Int.reduceLE, g6], by simp -implicitDefEqProofs only [go_sem, ↓reduceIte, Nat.reduceEqDiff, Int.reduceLT, Nat.reduceLT, Int.reduceToNat, Int.reducePow, Nat.reduceAdd, Int.reduceEq, Nat.reduceLeDiff, Int.reduceLE, g7], by simp -implicitDefEqProofs only [go_sem, ↓reduceIte, Nat.reduceEqDiff, Int.reduceLT, Nat.reduceLT, Int.reduceToNat, Int.reducePow, Nat.reduceAdd, Int.reduceEq, Nat.reduceLeDiff, Int.reduceLE, g8], by simp -implicitDefEqProofs only [go_sem, ↓reduceIte, Nat.reduceEqDiff, Int.reduceLT, Nat.reduceLT, Int.reduceToNat, Int.reducePow, Nat.reduceAdd, Int.reduceEq, Nat.reduceLeDiff, Int.reduceLE], by rw [List.length_set]; exact hyl, hset _, fa.new (Fx.set (m := only g) _ _ _ rfl) (fun k e hk => by have : k = g := e; subst this; rfl)⟩
    · have i1 : ¬ (i : Int) < (x.bytes.length : Int) := by omega
      have ova := ov9.fx fa (fun k hk e => own_apart ov9 ob9 (by decide) e hk.symm)
      have hcv : wa.cell? (At zb 15) = some (.slice A3 x.vec.length c3) := by rw [hZa.cell]; simpa using c15
      simp -implicitDefEqProofs only [go_sem, ↓reduceIte, Nat.reduceEqDiff, Int.reduceLT, Nat.reduceLT, Int.reduceToNat, Int.reducePow, Nat.reduceAdd, Int.reduceEq, Nat.reduceLeDiff, Int.reduceLE, g1, g5, g6, g7, g8, g10, hca, i1]
      refine loop_intro (fun q f w' => ∃ (i : Nat) (ys : List Int), q = x.vec.length - i ∧ i ≤ x.vec.length ∧ f 1 = .pointer (some (At b0 0)) ∧ f 5 = .pointer (some (At yb 0)) ∧ f 6 = .int .i64 0 ∧ f 7 = .pointer (some (At zb 0)) ∧ f 8 = .int .i64 0 ∧ f 11 = .int .i64 i ∧
          ys.length = x.vec.length ∧ OwnI 21 .i32 w6.heap.size w' (.slice A3 x.vec.length c3) ys ∧ Fx (fun k => (Value.slice A3 x.vec.length c3).ownBlock = some k) wa w') x.vec.length
        ⟨0, x.vec, rfl, by omega, by simp -implicitDefEqProofs only [go_sem, ↓reduceIte, Nat.reduceEqDiff, Int.reduceLT, Nat.reduceLT, Int.reduceToNat, Int.reducePow, Nat.reduceAdd, Int.reduceEq, Nat.reduceLeDiff, Int.reduceLE, g1], by simp -implicitDefEqProofs only [go_sem, ↓reduceIte, Nat.reduceEqDiff, Int.reduceLT, Nat.reduceLT, Int.reduceToNat, Int.reducePow, Nat.reduceAdd, Int.reduceEq, Nat.reduceLeDiff, Int.reduceLE, g5], by simp -implicitDefEqProofs only [go_sem, ↓reduceIte, Nat.reduceEqDiff, Int.reduceLT, Nat.reduceLT, Int.reduceToNat, Int.reducePow, Nat.reduceAdd, Int.reduceEq, Nat.reduceLeDiff, Int.reduceLE, g6], by simp -implicitDefEqProofs only [go_sem, ↓reduceIte, Nat.reduceEqDiff, Int.reduceLT, Nat.reduceLT, Int.reduceToNat, Int.reducePow, Nat.reduceAdd, Int.reduceEq, Nat.reduceLeDiff, Int.reduceLE, g7], by simp -implicitDefEqProofs only [go_sem, ↓reduceIte, Nat.reduceEqDiff, Int.reduceLT, Nat.reduceLT, Int.reduceToNat, Int.reducePow, Nat.reduceAdd, Int.reduceEq, Nat.reduceLeDiff, Int.reduceLE, g8], by simp -implicitDefEqProofs only [go_sem, ↓reduceIte, Nat.reduceEqDiff, Int.reduceLT, Nat.reduceLT, Int.reduceToNat, Int.reducePow, Nat.reduceAdd, Int.reduceEq, Nat.reduceLeDiff, Int.reduceLE]; rfl, rfl, ova, Fx.refl _ _⟩ ?_
      rintro q f wc ⟨i, ys, rfl, hi, g1, g5, g6, g7, g8, g11, hyl, oc, fc⟩
      have hZc := fc.blk hZa (fun e => by have := lv _ e; omega)
      have hcc : wc.cell? (At zb 15) = some (.slice A3 x.vec.length c3) := by rw [hZc.cell]; simpa using c15
      by_cases hlt : i < x.vec.length
      · have i0 : (0 : Int) ≤ (i : Int) := by omega
        have i1 : (i : Int) < (x.vec.length : Int) := by omega
        have en : IntKind.i64.wrap ((i : Int) + 1) = ((i + 1 : Nat) : Int) := i64_nat (by omega) (by omega)
        obtain ⟨g, rfl, hg1, hg2, hcell, hfz, hset⟩ := own_set oc (i := i) (by omega)
        simp -implicitDefEqProofs only [go_sem, ↓reduceIte, Nat.reduceEqDiff, Int.reduceLT, Nat.reduceLT, Int.reduceToNat, Int.reducePow, Nat.reduceAdd, Int.reduceEq, Nat.reduceLeDiff, Int.reduceLE, g1, g5, g6, g7, g8, g11, hcc, i0, i1, hcell, hfz, en]
        exact ⟨x.vec.length - (i + 1), by omega, i + 1, _, rfl, by omega, by simp -implicitDefEqProofs only [go_sem, ↓reduceIte, Nat.reduceEqDiff, Int.reduceLT, Nat.reduceLT, Int.reduceToNat, Int.reducePow, Nat.reduceAdd, Int.reduceEq, Nat.reduceLeDiff, Int.reduceLE, g1], by simp -implicitDefEqProofs only [go_sem, ↓reduceIte, Nat.reduceEqDiff, Int.reduceLT, Nat.reduceLT, Int.reduceToNat, Int.reducePow, Nat.reduceAdd, Int.reduceEq, Nat.reduceLeDiff, Int.reduceLE, g5], by simp -implicitDefEqProofs only [go_sem, ↓reduceIte, Nat.reduceEqDiff, Int.reduceLT, Nat.reduceLT, Int.reduceToNat, Int.reducePow, Nat.reduceAdd, Int.reduceEq, Nat.reduceLeDiff, Int.reduceLE, g6], by simp -implicitDefEqProofs only [go_sem, ↓reduceIte, Nat.reduceEqDiff, Int.reduceLT, Nat.reduceLT, Int.reduceToNat, Int.reducePow, Nat.reduceAdd, Int.reduceEq, Nat.reduceLeDiff, Int.reduceLE, g7], by simp -implicitDefEqProofs only [go_sem, ↓reduceIte, Nat.reduceEqDiff, Int.reduceLT, Nat.reduceLT, Int.reduceToNat, Int.reducePow, Nat.reduceAdd, Int.reduceEq, Nat.reduceLeDiff, Int.reduceLE, g8], by simp -implicitDefEqProofs only [go_sem, ↓reduceIte, Nat.reduceEqDiff, Int.reduceLT, Nat.reduceLT, Int.reduceToNat, Int.reducePow, Nat.reduceAdd, Int.reduceEq, Nat.reduceLeDiff, Int.reduceLE], by rw [List.length_set]; exact hyl, hset _, fc.new (Fx.set (m := only g) _ _ _ rfl) (fun k e hk => by have : k = g := e; subst this; rfl)⟩
      · have i1 : ¬ (i : Int) < (x.vec.length : Int) := by omega
        have hX9 := hX8.fx f9 (fun e => by omega) (fun k hk _ e => by have : k < b0 := hk; omega)
        have hXa := hX9.fx fa (fun e => by have := lb _ e; omega) (fun k hk _ e => by have : k < b0 := hk; have := lb _ e; omega)
        have hXc := hXa.fx fc (fun e => by have := lv _ e; omega) (fun k hk _ e => by have : k < b0 := hk; have := lv _ e; omega)
        have hY9 := hY8.fx f9 (fun e => by omega) (fun k hk _ e => by have : w4.heap.size ≤ k := hk.1; omega)
        have hYa := hY9.fx fa (fun e => by have := lb _ e; omega) (fun k hk _ e => by have : k < yb := hk.2; have := lb _ e; omega)
        have hYc := hYa.fx fc (fun e => by have := lv _ e; omega) (fun k hk _ e => by have : k < yb := hk.2; have := lv _ e; omega)
        obtain ⟨ca, lda, hra⟩ := msg_load hXc
        obtain ⟨cb, ldb, hrb⟩ := msg_load hYc
        have z0 : ((0 : Int) == 0) = true := rfl
        have kkc := ((kk8.new f9 (fun k e hk => by omega)).new fa (fun k e hk => by have := lb _ e; omega)).new fc (fun k e hk => by have := lv _ e; omega)
        simp -implicitDefEqProofs only [go_sem, ↓reduceIte, Nat.reduceEqDiff, Int.reduceLT, Nat.reduceLT, Int.reduceToNat, Int.reducePow, Nat.reduceAdd, Int.reduceEq, Nat.reduceLeDiff, Int.reduceLE, g1, g5, g6, g7, g8, g11, hcc, i1, z0, lda, ldb]
        refine (same_calls hra hrb).mono ?_
        rintro v wd ⟨⟨q, rfl, hqq⟩, kd⟩
        have hq1 : q = true := hqq.2 rfl
        subst hq1
        simp -implicitDefEqProofs only [go_sem, ↓reduceIte, Nat.reduceEqDiff, Int.reduceLT, Nat.reduceLT, Int.reduceToNat, Int.reducePow, Nat.reduceAdd, Int.reduceEq, Nat.reduceLeDiff, Int.reduceLE]
        exact ⟨trivial, kkc.tr kd⟩
end Go.Proofs.Ytnoeeiaffnbhcaa.F
