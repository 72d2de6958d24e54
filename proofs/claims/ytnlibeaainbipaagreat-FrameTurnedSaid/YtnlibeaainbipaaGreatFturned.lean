/- The law that a frame in which one byte is another one is never read as a message without an error, but where its length is: the walk. Conditions: those of its row. -/
import Derived.Test.YtnlibeaainbipaaGreatFturnp
import Derived.Test.YtnlibeaainbipaaGreatFalive
import Derived.Test.YtnlibeaainbipaaGreatGmgreat
namespace Go.Proofs.YtnlibeaainbipaaGreat.F
open Go.RowKit Go.Proofs.YtnlibeaainbipaaGreat.M Go.Proofs.YtnlibeaainbipaaGreat.V
set_option linter.unusedSimpArgs false
set_option linter.unusedVariables false
set_option maxRecDepth 20000
theorem own_set {e : TypeId} {kd : IntKind} {b : Nat} {w : World} {A : Option Addr} {n c : Nat} {xs : List Int} (h : OwnI e kd b w (.slice A n c) xs) {i : Nat} (hi : i < xs.length) :
    ∃ g, A = some (At g 0) ∧ b ≤ g ∧ g < w.heap.size ∧ w.cell? (At g i) = some (.int kd xs[i]) ∧ w.frozen? (At g i) = false ∧
      ∀ x, OwnI e kd b (w.setCell (At g i) (.int kd x)) (.slice A n c) (xs.set i x) := by
  have hcell := fun g => World.ownsRow.cells h (g := g)
  rcases h.2 with ⟨hv, hn⟩ | ⟨g, cap, cur, hv, hb, hg, hc, hm, hs, ht⟩
  · omega
  · injection hv with h1 h2 h3
    have hB : Blk w g e cur := hg
    refine ⟨g, h1, hb, hB.lt, ?_, hB.frozen i, fun x => ?_⟩
    · have := hcell g (by rw [h1]; rfl) i (.int kd xs[i]) (by rw [List.getElem?_map, List.getElem?_eq_getElem hi]; rfl)
      rwa [at_add, Nat.zero_add] at this
    · refine ⟨by simp, .inr ⟨g, cap, cur.setIfInBounds i (.int kd x), ?_, hb, hB.set i _, by simpa using hc, hm, by simpa using hs, ?_⟩⟩
      · rw [h1, h2, h3, List.length_set]
      · rw [List.length_set]
        simp only [Array.toList_setIfInBounds, Nat.mul_one, List.map_set] at ht ⊢
        rw [← ht, List.take_set]
theorem own_le {e : TypeId} {kd : IntKind} {b : Nat} {w : World} {v : Value} {xs : List Int} (h : OwnI e kd b w v xs) : xs.length ≤ maxLen := by
  rcases h.2 with ⟨_, hn⟩ | ⟨g, cap, cur, hv, hb, hg, hc, hm, _⟩
  · rw [hn]; exact Nat.zero_le _
  · omega
theorem own_cap {e : TypeId} {kd : IntKind} {b : Nat} {w : World} {A : Option Addr} {n c : Nat} {xs : List Int} (h : OwnI e kd b w (.slice A n c) xs) : c ≤ maxLen := by
  rcases h.2 with ⟨hv, hn⟩ | ⟨g, cap, cur, hv, hb, hg, hc, hm, _⟩
  · injection hv with _ _ h3; rw [h3]; exact Nat.zero_le _
  · injection hv with _ _ h3; rw [h3]; exact hm
theorem xor_new {a y : Int} (ha : 0 ≤ a ∧ a ≤ 255) (hy : 0 ≤ y ∧ y ≤ 255) (h : y ≠ 0) : ∃ v, bits .xor .u8 a y = v ∧ (0 ≤ v ∧ v ≤ 255) ∧ v ≠ a := by
  have ea : a = bi (BitVec.ofNat 8 a.toNat) := by unfold bi; rw [BitVec.toNat_ofNat]; omega
  have ey : y = bi (BitVec.ofNat 8 y.toNat) := by unfold bi; rw [BitVec.toNat_ofNat]; omega
  have hx := x8 (BitVec.ofNat 8 a.toNat) (BitVec.ofNat 8 y.toNat)
  rw [← ea, ← ey] at hx
  refine ⟨_, hx, ?_, ?_⟩
  · have := (BitVec.ofNat 8 a.toNat ^^^ BitVec.ofNat 8 y.toNat).isLt
    unfold bi
    omega
  · intro e
    have e2 := e.trans ea
    generalize BitVec.ofNat 8 a.toNat = X at e2
    unfold bi at e2
    have e' := BitVec.eq_of_toNat_eq (Int.ofNat_inj.1 e2)
    have this : BitVec.ofNat 8 y.toNat = 0#8 := by
      have := congrArg (X ^^^ ·) e'
      simp only [← BitVec.xor_assoc, BitVec.xor_self, BitVec.zero_xor] at this
      exact this
    rw [this] at ey
    exact h (by rw [ey]; rfl)
set_option maxHeartbeats 1600000 in
theorem turned_walk {w : World} {x : Msg} {cs : List Value} {p y : Int} (hx : kMsg.rep (fun k => k < w.heap.size) w x cs) (hy : 0 ≤ y ∧ y ≤ 255) :
    callK Tryz.prog 4 #[.agg cs.toArray, .int .i64 p, .int .u8 y] w fun v w' => v = .bool true ∧ Keep w w' := by
  refine callK_of Tryz.func4 c4 r4 (by exact Nat.le_of_ble_eq_true rfl) ?_
  rw [m4]
  simp -implicitDefEqProofs only [go_sem, seval]
  have hM1 : MsgAt 37 (fun k => k < w.heap.size) (w.alloc (.cells cs.toArray 37)) w.heap.size x := ⟨cs, Blk.new w _ _, kMsg.keep hx (Fx.alloc _ _ _)⟩
  have kA : Keep w (w.alloc (.cells cs.toArray 37)) := Fx.alloc _ w _
  generalize w.alloc (.cells cs.toArray 37) = w1 at *
  obtain ⟨b0, hb0⟩ : ∃ b0, b0 = w.heap.size := ⟨_, rfl⟩
  rw [← hb0] at hM1 ⊢
  refine (falive_calls w1).mono ?_
  rintro v w2 ⟨rfl, k2⟩
  have hM2 := hM1.keep k2
  have kk2 := kA.tr k2
  obtain ⟨cs2, ld2, hr2⟩ := msg_load hM2
  simp -implicitDefEqProofs only [go_sem, seval, ld2]
  refine (greatMsg_calls hr2).mono ?_
  rintro v w3 ⟨⟨q, rfl⟩, k3⟩
  have hM3 := hM2.keep k3
  have kk3 := kk2.tr k3
  have s3 := kk3.size
  cases q with
  | true =>
    simp -implicitDefEqProofs only [go_sem, seval]
    exact ⟨trivial, kk3⟩
  | false =>
  obtain ⟨cs3, ld3, hr3⟩ := msg_load hM3
  have hRm := rmsg_of hr3
  obtain ⟨vk, hck, _, hvk, hwf⟩ := hM3.cell lnKind rfl
  simp only [List.cons.injEq, and_true] at hvk
  subst hvk
  have hk := wf_u8' hwf
  simp -implicitDefEqProofs only [go_sem, seval, ld3]
  refine (encode_calls (kMsg.mono hr3 fun k hk _ => hk) (fun h => put_bs hRm h)).mono ?_
  rintro v w4 ⟨hv, k4⟩
  have kk4 := kk3.tr k4
  have s4 := k4.size
  have z62 : ((62 : Int) != 0) = true := rfl
  have z72 : ((72 : Int) != 0) = true := rfl
  have z00 : ((0 : Int) != 0) = false := rfl
  rcases hv with ⟨hno, rfl⟩ | ⟨hok, hl, rfl⟩ | ⟨hok, hl, v1, rfl, ho⟩
  · simp -implicitDefEqProofs only [go_sem, seval, z62]
    exact ⟨trivial, kk4⟩
  · simp -implicitDefEqProofs only [go_sem, seval, z72]
    exact ⟨trivial, kk4⟩
  have hmb := put_bs hRm hok
  have hpure := fun {i : Nat} (hi : i < (frameF x.kind (putMsg x).2.b).length) {v : Int} (hv : 0 ≤ v ∧ v ≤ 255) (hne : v ≠ (frameF x.kind (putMsg x).2.b)[i]) => turn_pure hk hmb hl hi hv hne
  have hfb : Bs (frameF x.kind (putMsg x).2.b) := (headF_bs hk.1 hk.2 hmb).append (sum4_bs _)
  have hvl : (vput (putMsg x).2.b.length).length ≤ 10 := vput_u64 (n := (putMsg x).2.b.length) (by omega)
  have hfl : (frameF x.kind (putMsg x).2.b).length ≤ 10000 := by simp [frameF, headF, sum4]; omega
  generalize frameF x.kind (putMsg x).2.b = bs at *
  obtain ⟨A, c, rfl, hc, hr⟩ := ho.slice
  have hcm := own_cap ho
  by_cases h0 : p < 0
  · simp -implicitDefEqProofs only [go_sem, seval, z00, h0]
    exact ⟨trivial, kk4⟩
  by_cases h1 : (bs.length : Int) ≤ p
  · simp -implicitDefEqProofs only [go_sem, seval, z00, h0, h1]
    exact ⟨trivial, kk4⟩
  by_cases hy0 : y = 0
  · have zy : (y == 0) = true := by rw [hy0]; rfl
    simp -implicitDefEqProofs only [go_sem, seval, z00, h0, h1, zy]
    exact ⟨trivial, kk4⟩
  have zy : (y == 0) = false := by rw [beq_eq_false_iff_ne]; exact hy0
  obtain ⟨i, rfl⟩ := Int.eq_ofNat_of_zero_le (show 0 ≤ p by omega)
  have hi : i < bs.length := by omega
  have i0 : (0 : Int) ≤ (i : Int) := by omega
  have i1 : (i : Int) < (bs.length : Int) := by omega
  obtain ⟨g, rfl, hg1, hg2, hcell, hfz, hset⟩ := own_set ho hi
  obtain ⟨v, hxv, hvr, hvn⟩ := xor_new (hfb _ (List.getElem_mem hi)) hy hy0
  have hp := hpure hi hvr hvn
  simp -implicitDefEqProofs only [go_sem, seval, z00, h0, h1, zy, i0, i1, hcell, hfz, hxv]
  have f5 : Fx (only g) w4 (w4.setCell (At g i) (.int .u8 v)) := Fx.set _ _ _ rfl
  have ho5 := hset v
  have hyl : (bs.set i v).length = bs.length := List.length_set
  have hyb : Bs (bs.set i v) := fun z hz => by
    rcases List.mem_or_eq_of_mem_set hz with h | rfl
    · exact hfb z h
    · exact hvr
  have K5 : Keep w (w4.setCell (At g i) (.int .u8 v)) := kk4.new f5 (fun k e hk => by have : k = g := e; omega)
  generalize w4.setCell (At g i) (.int .u8 v) = w5 at *
  generalize bs.set i v = ys at *
  rw [← hyl]
  obtain ⟨A', c', e', hc5, hr5⟩ := ho5.slice
  injection e' with e1 e2 e3
  subst e1 e3
  refine (rnew_calls w5).mono ?_
  rintro v' w6 ⟨rfl, hR6, k6, s6⟩
  simp -implicitDefEqProofs only [go_sem, seval]
  obtain ⟨rb, hrb⟩ : ∃ rb, rb = w5.heap.size + 1 := ⟨_, rfl⟩
  obtain ⟨gs, hgs⟩ : ∃ gs, gs = w5.heap.size := ⟨_, rfl⟩
  rw [← hrb, ← hgs] at hR6
  rw [← hrb]
  have K6 := K5.tr k6
  have s5 := K5.size
  have hr6 := hr5.fx k6 (fun _ _ h => h)
  refine (feed_calls (hR6 w6.heap.size) (Nat.le_refl _) hr6 hyb (by simp; omega)).mono ?_
  rintro v' w7 ⟨rfl, hR7, f7⟩
  rw [if_pos rfl, List.nil_append] at hR7
  have ob7 : ∀ k, OwnB w6 rb k → w6.heap.size ≤ k ∧ k < w6.heap.size := fun k e => ownB_of (hR6 w6.heap.size) (Fx.refl (fun _ => False) _) (fun h => h) e
  have K7 : Keep w w7 := K6.new f7 (fun k e hk => by rcases e with e | e <;> first | omega | (have := ob7 k e; omega))
  have hr7 := hr6.fx f7 (fun ad e hk => by
    have hlt := rdI_lt hr5 (by intro e; rw [e] at hyl; simp at hyl; omega) ad e
    rcases hk with e | e <;> first | omega | (have := ob7 _ e; omega))
  have s7 := f7.size
  simp -implicitDefEqProofs only [go_sem, seval]
  refine (next_calls hR7 s7 (by omega)).mono ?_
  have e8 : stepF ys 0 = nextF ys := by unfold stepF; rw [if_pos rfl]
  rw [e8]
  rintro v' w8 ⟨cs8, rfl, hm8, hR8, f8⟩
  have K8 : Keep w w8 := K7.new f8 (fun k e hk => by rcases e with e | e <;> omega)
  have hr8 := hr7.fx f8 (fun ad e hk => by
    have hlt := rdI_lt hr5 (by intro e; rw [e] at hyl; simp at hyl; omega) ad e
    rcases hk with e | e <;> omega)
  obtain ⟨w9, S9, hM9, k9, s9⟩ := store_msg hm8
  have K9 := K8.tr k9
  have hr9 := hr8.fx k9 (fun _ _ h => h)
  simp -implicitDefEqProofs only [go_sem, seval, S9]
  refine (first_calls hr9 hc5 hcm hyb (by omega)).mono ?_
  rintro v' wa ⟨⟨csa, n, rfl, hcl, hone, _⟩, ka⟩
  obtain ⟨wb, Sb, hxb, kb, _⟩ := store_cells (w := wa) hcl hone
  have Kb := (K9.tr ka).tr kb
  generalize (nextF ys).2.1 = e at *
  have zE : (e == e) = true := beq_self_eq_true e
  by_cases he : e = 0
  · have zN : (e != 0) = false := by rw [bne_eq_false_iff_eq]; exact he
    have : i = 4 ∨ i = 5 := by
      refine Classical.byContradiction fun hc => hp (fun h => hc (.inl h)) (fun h => hc (.inr h)) he
    rcases this with rfl | rfl
    · have z4 : (((4 : Nat) : Int) == 4) = true := rfl
      simp -implicitDefEqProofs only [go_sem, seval, Sb, zE, zN, z4]
      exact ⟨trivial, Kb⟩
    · have z4 : (((5 : Nat) : Int) == 4) = false := rfl
      have z5 : (((5 : Nat) : Int) == 5) = true := rfl
      simp -implicitDefEqProofs only [go_sem, seval, Sb, zE, zN, z4, z5]
      exact ⟨trivial, Kb⟩
  · have zN : (e != 0) = true := by rw [bne_iff_ne]; exact he
    simp -implicitDefEqProofs only [go_sem, seval, Sb, zE, zN]
    exact ⟨trivial, Kb⟩
end Go.Proofs.YtnlibeaainbipaaGreat.F
