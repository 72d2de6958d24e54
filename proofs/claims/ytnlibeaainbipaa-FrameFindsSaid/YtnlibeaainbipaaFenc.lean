/- A frame: how the program writes it. Conditions: the message is data of its kind's range. -/
import Derived.Test.YtnlibeaainbipaaGmround
import Derived.Test.YtnlibeaainbipaaGmload
import Derived.Test.YtnlibeaainbipaaFmore
import Derived.Test.YtnlibeaainbipaaMfnd
namespace Go.Proofs.Ytnlibeaainbipaa.M
open Go.RowKit
variable {P : Program}
theorem bsl_four {t e : TypeId} {kd : IntKind} {by_ : Nat} {w : World} {x y z u : Int} {k : Value → World → Prop} (hT : IE P t e kd by_) (hk : k (.slice (some ⟨w.heap.size, 0, none⟩) 4 4) (w.alloc (.cells #[.int kd x, .int kd y, .int kd z, .int kd u] e))) : bslK P t 4 #[(0, .int kd x), (1, .int kd y), (2, .int kd z), (3, .int kd u)] w k := by
  obtain ⟨ht, hi⟩ := hT
  cases hinfo : P.info? e with
  | none => rw [hinfo] at hi; cases hi
  | some i =>
    rw [hinfo] at hi
    simp only [Option.map_some, Option.some.injEq, Prod.mk.injEq] at hi
    obtain ⟨hz, hs, hby⟩ := hi
    refine runK_of ?_ hk
    simp [Instr.buildSlice, run_underlying ht, sizeOf, typeInfo, hinfo, hs, zeroValue, hz, Instr.fill, Value.cells, newRow, newObj, go_sem]
    rfl
theorem frs_cut {K T : Fr → World → Prop} {l : List (Nat × MI)} {t : DT} {f : Fr} {w : World} (h : ∀ f w, T f w → K f w) (hh : ∀ K' : Fr → World → Prop, (∀ f w, T f w → K' f w) → frS P K' l t f w) : frS P K l t f w := hh K h
end Go.Proofs.Ytnlibeaainbipaa.M
namespace Go.Proofs.Ytnlibeaainbipaa.F
open Go.RowKit Go.Proofs.Ytnlibeaainbipaa.M Go.Proofs.Ytnlibeaainbipaa.V
set_option linter.unusedSimpArgs false
set_option linter.unusedVariables false
set_option maxRecDepth 20000
/-- The sum of bytes; its four bytes; a frame. -/
def bvs (b : List Int) : List (BitVec 8) := b.map fun x => BitVec.ofNat 8 x.toNat
theorem byts_bvs {b : List Int} (h : Bs b) : byts (bvs b) = b := by
  unfold byts bvs
  rw [List.map_map]
  refine (List.map_congr_left fun x hx => ?_).trans (List.map_id b)
  have := h x hx
  show bi (BitVec.ofNat 8 x.toNat) = x
  rw [bi, BitVec.toNat_ofNat]; omega
def crcI (b : List Int) : Int := wi (more 0#32 (bvs b))
theorem crcI_range (b : List Int) : 0 ≤ crcI b ∧ crcI b < 4294967296 := by
  have := (more 0#32 (bvs b)).isLt
  unfold crcI wi
  omega
def sum4 (s : Int) : List Int := [s / 16777216 % 256, s / 65536 % 256, s / 256 % 256, s % 256]
def headF (k : Int) (m : List Int) : List Int := [76, 68, 1, k] ++ vput m.length ++ m
def frameF (k : Int) (m : List Int) : List Int := headF k m ++ sum4 (crcI (headF k m))
theorem sum4_bs (s : Int) : Bs (sum4 s) := by
  intro x hx
  simp [sum4] at hx
  omega
theorem headF_bs {k : Int} (h0 : 0 ≤ k) (h1 : k ≤ 255) {m : List Int} (hm : Bs m) : Bs (headF k m) := by
  refine Bs.append (Bs.append ?_ (vput_bs _)) hm
  intro x hx
  simp at hx
  omega
theorem of_own {w : World} {g : Nat} (h : Sum w g) {b : List Int} (hb : Bs b) {A : Option Addr} {c : Nat} (hr : RdI w .u8 A b) (hn : b ≠ [] → ∀ ad, A = some ad → ad.block ≠ g) (hl : b.length ≤ 9223372036854775807) :
    callK Try.prog 17 #[.pointer (some (At g 0)), .slice A b.length c] w fun v w' => v = .int .u32 (crcI b) ∧ Ready w' g ∧ Fx (only g) w w' := by
  have e := byts_bvs hb
  have hL : (bvs b).length = b.length := by simp [bvs]
  have := of_calls h (bs := bvs b) (c := c) (by rw [e]; exact hr) (fun hne => hn (by rw [e] at hne; exact hne)) (by omega)
  rw [hL] at this
  exact this
/-- What writing a frame answers. -/
def EncV (w w' : World) (x : Msg) (v : Value) : Prop := (¬ PutOk x ∧ v = .tuple #[.slice none 0 0, .int .i64 62]) ∨ (PutOk x ∧ 4096 < (putMsg x).2.b.length ∧ v = .tuple #[.slice none 0 0, .int .i64 72]) ∨
  (PutOk x ∧ (putMsg x).2.b.length ≤ 4096 ∧ ∃ v1, v = .tuple #[v1, .int .i64 0] ∧ OwnI 5 .u8 w.heap.size w' v1 (frameF x.kind (putMsg x).2.b))
theorem encode_calls {w : World} {x : Msg} {cs : List Value} (hx : kMsg.rep (fun k => k < w.heap.size) w x cs) (hbs : PutOk x → Bs (putMsg x).2.b) : callK Try.prog 7 #[.agg cs.toArray] w fun v w' => EncV w w' x v ∧ Keep w w' := by
  refine callK_of Try.func7 c7 r7 (by exact Nat.le_of_ble_eq_true rfl) ?_
  rw [m7]
  simp -implicitDefEqProofs only [go_sem, seval]
  have hM1 : MsgAt 42 (fun k => k < w.heap.size) (w.alloc (.cells cs.toArray 42)) w.heap.size x := ⟨cs, Blk.new w _ _, kMsg.keep hx (Fx.alloc _ _ _)⟩
  have kA : Keep w (w.alloc (.cells cs.toArray 42)) := Fx.alloc _ w _
  have s1 := size_alloc w (.cells cs.toArray 42)
  generalize w.alloc (.cells cs.toArray 42) = w1 at *
  obtain ⟨b0, hb0⟩ : ∃ b0, b0 = w.heap.size := ⟨_, rfl⟩
  rw [← hb0] at hM1 s1 ⊢
  obtain ⟨cs1, ld1, hr1⟩ := msg_load hM1
  simp -implicitDefEqProofs only [go_sem, seval, ld1]
  refine (put_msg_calls (kMsg.mono hr1 fun k hk _ => by omega)).mono ?_
  rintro v w2 ⟨hv, k2⟩
  have kk2 := kA.tr k2
  rcases hv with ⟨hno, rfl⟩ | ⟨hok, v1, rfl, ho⟩
  · simp -implicitDefEqProofs only [go_sem, seval]
    exact ⟨.inl ⟨hno, rfl⟩, kk2⟩
  have hM2 := hM1.keep k2
  have hbm := hbs hok
  generalize hm : (putMsg x).2.b = m at *
  obtain ⟨A, c, rfl, hc, hr⟩ := ho.slice
  by_cases hl : (4096 : Int) < (m.length : Int)
  · simp -implicitDefEqProofs only [go_sem, seval, hl]
    exact ⟨.inr (.inl ⟨hok, by rw [hm]; omega, rfl⟩), kk2⟩
  have eL : IntKind.u64.wrap (m.length : Int) = ((m.length : Nat) : Int) := u64_nat (by omega) (by omega)
  obtain ⟨v, hck, _, hv, hwf⟩ := hM2.cell lnKind rfl
  simp only [List.cons.injEq, and_true] at hv
  subst hv
  obtain ⟨n0, n1⟩ := wf_u8' hwf
  simp -implicitDefEqProofs only [go_sem, seval, hl, eL]
  have s2 := k2.size
  refine frs_cut (T := fun f w' => ∃ v6, f 6 = v6 ∧ f 4 = .slice A m.length c ∧ OwnI 5 .u8 w2.heap.size w' v6 ([76, 68, 1, x.kind] ++ vput m.length) ∧ Keep w2 w') ?_ ?_
  · rintro f w3 ⟨v6, g6, g4, o6, k3⟩
    have hr3 := hr.fx k3 (fun _ _ h => h)
    have kk3 := kk2.tr k3
    have s3 := k3.size
    have hvl : (vput m.length).length ≤ 10 := vput_u64 (n := m.length) (by omega)
    simp -implicitDefEqProofs only [go_sem, seval, g6, g4]
    refine append_own ie8 (by decide) o6 hr3 (by simp; omega) (by omega) ?_
    intro v7 w4 o7 f4 _
    have kk4 := kk3.new f4 (fun k e hk => by have := (o6.lt e).1; omega)
    have o7 : OwnI 5 .u8 w2.heap.size w4 v7 (headF x.kind m) := o7
    have hlen : (headF x.kind m).length ≤ 5000 := by simp [headF]; omega
    have hhb := headF_bs n0 n1 hbm
    have hfr : frameF x.kind m = headF x.kind m ++ sum4 (crcI (headF x.kind m)) := rfl
    generalize headF x.kind m = b at *
    simp -implicitDefEqProofs only [go_sem, seval]
    refine (new_calls w4).mono ?_
    rintro v w5 ⟨rfl, hf5, k5, s5⟩
    have s4 := kk4.size
    have o7' := o7.fx k5 (fun _ _ h => h)
    obtain ⟨A7, c7, rfl, hc7, hr7⟩ := o7'.slice
    obtain ⟨g, hg⟩ : ∃ g, g = w4.heap.size := ⟨_, rfl⟩
    rw [← hg] at hf5 ⊢
    simp -implicitDefEqProofs only [go_sem, seval]
    refine (of_own (.inl hf5) hhb hr7 (fun _ ad e1 e2 => by have := (o7.lt (k := ad.block) (by rw [e1]; rfl)).2; omega) (by omega)).mono ?_
    rintro v w6 ⟨rfl, hR6, f6⟩
    have o8 := o7'.fx f6 (fun k hk e => by have := (o7.lt hk).2; have : k = g := e; omega)
    have s5' := k5.size
    have s4' := f4.size
    have s6 := f6.size
    have kk6 := (kk4.tr k5).new f6 (fun k e hk => by have : k = g := e; omega)
    have E1 : IntKind.u8.wrap (crcI b / (2 : Int) ^ min 24 32) = crcI b / 16777216 % 256 := by rw [show ((2 : Int) ^ min 24 32) = 16777216 by decide]; exact IntKind.wrap_u8 _
    have E2 : IntKind.u8.wrap (crcI b / (2 : Int) ^ min 16 32) = crcI b / 65536 % 256 := by rw [show ((2 : Int) ^ min 16 32) = 65536 by decide]; exact IntKind.wrap_u8 _
    have E3 : IntKind.u8.wrap (crcI b / 256) = crcI b / 256 % 256 := IntKind.wrap_u8 _
    have E4 : IntKind.u8.wrap (crcI b) = crcI b % 256 := IntKind.wrap_u8 _
    simp -implicitDefEqProofs only [go_sem, seval, E1, E2, E3, E4]
    refine bsl_four ie8 ?_
    have kB : Keep w6 (w6.alloc (.cells #[.int .u8 (crcI b / 16777216 % 256), .int .u8 (crcI b / 65536 % 256), .int .u8 (crcI b / 256 % 256), .int .u8 (crcI b % 256)] 5)) := Fx.alloc _ _ _
    have rB : RdI (w6.alloc (.cells #[.int .u8 (crcI b / 16777216 % 256), .int .u8 (crcI b / 65536 % 256), .int .u8 (crcI b / 256 % 256), .int .u8 (crcI b % 256)] 5)) .u8 (some (At w6.heap.size 0)) (sum4 (crcI b)) := RdI.new w6 5 .u8 (sum4 (crcI b))
    have o9 := o8.fx kB (fun _ _ h => h)
    have s7 := kB.size
    have kk7 := kk6.tr kB
    generalize w6.alloc (.cells #[.int .u8 (crcI b / 16777216 % 256), .int .u8 (crcI b / 65536 % 256), .int .u8 (crcI b / 256 % 256), .int .u8 (crcI b % 256)] 5) = w7 at *
    simp -implicitDefEqProofs only [go_sem, seval]
    refine append_own (ys := sum4 (crcI b)) ie8 (by decide) o9 rB (by rw [show (sum4 (crcI b)).length = 4 from rfl]; omega) (by omega) ?_
    intro v8 w8 o10 f8 _
    simp -implicitDefEqProofs only [go_sem, seval]
    exact ⟨.inr (.inr ⟨hok, by rw [hm]; omega, v8, rfl, by rw [hm, hfr]; exact o10.lower (by omega)⟩), kk7.new f8 (fun k e hk => by have := (o9.lt e).1; omega)⟩
  · intro K' hK'
    refine frs_intro (fun w' => Keep w2 w') (Fx.drew _ _) ?_
    simp -implicitDefEqProofs only [go_sem, seval, eL]
    have ldk : ∀ w', Keep w2 w' → w'.cell? (At b0 0) = some (.int .u8 x.kind) := fun w' k' => (cell_fx hM2 k' (fun h => h) 0).trans hck
    refine hld_intro (.int .u8 x.kind) (Fx.drew _ _) (fun w' k' => by have := ldk w' k'; simp -implicitDefEqProofs only [go_sem, seval, this]; exact ⟨trivial, trivial⟩) ?_
    simp -implicitDefEqProofs only [go_sem, seval]
    have kd : Keep w2 w2.drew := Fx.drew _ _
    have sd := kd.size
    have hvl : (vput m.length).length ≤ 10 := vput_u64 (n := m.length) (by omega)
    refine frk_intro ?_ ?_
    · simp -implicitDefEqProofs only [go_sem, seval]
      refine bsl_four ie8 ?_
      have kB : Keep w2 (w2.drew.alloc (.cells #[.int .u8 76, .int .u8 68, .int .u8 1, .int .u8 x.kind] 5)) := kd.tr (Fx.alloc _ _ _)
      have oB : OwnI 5 .u8 w2.heap.size (w2.drew.alloc (.cells #[.int .u8 76, .int .u8 68, .int .u8 1, .int .u8 x.kind] 5)) (.slice (some (At w2.drew.heap.size 0)) 4 4) [76, 68, 1, x.kind] := OwnI.new w2.drew 5 .u8 [76, 68, 1, x.kind] sd (by show 4 ≤ 140737488355328; decide)
      generalize w2.drew.alloc (.cells #[.int .u8 76, .int .u8 68, .int .u8 1, .int .u8 x.kind] 5) = w3 at *
      simp -implicitDefEqProofs only [go_sem, seval]
      refine shs_intro kB ?_
      simp -implicitDefEqProofs only [go_sem, seval]
      refine (put_calls (n := m.length) (by omega) w3).mono ?_
      rintro v w4 ⟨hu, k4⟩
      have s3 := kB.size
      obtain ⟨A4, c4, rfl, hc4, hr4⟩ := hu.slice
      refine goE_intro (kB.tr k4) ?_
      simp -implicitDefEqProofs only [go_sem, seval]
      refine append_own ie8 (by decide) (oB.fx k4 (fun _ _ h => h)) hr4 (by rw [show ([76, 68, 1, x.kind] : List Int).length = 4 from rfl]; omega) (by have := k4.size; omega) ?_
      intro v6 w5 o6 f5 _
      have k5 := (kB.tr k4).new f5 (fun k e hk => by have := (oB.lt e).1; omega)
      refine goE_intro k5 ?_
      simp -implicitDefEqProofs only [go_sem, seval]
      exact hK' _ _ ⟨v6, by simp -implicitDefEqProofs only [go_sem, seval], by simp -implicitDefEqProofs only [go_sem, seval], o6, k5⟩
    · simp -implicitDefEqProofs only [go_sem, seval]
      refine (put_calls (n := m.length) (by omega) w2.drew).mono ?_
      rintro v w4 ⟨hu, k4⟩
      have k24 := kd.tr k4
      have s4 := k24.size
      simp -implicitDefEqProofs only [go_sem, seval]
      refine shs_intro k24 ?_
      simp -implicitDefEqProofs only [go_sem, seval]
      refine bsl_four ie8 ?_
      have kB : Keep w2 (w4.alloc (.cells #[.int .u8 76, .int .u8 68, .int .u8 1, .int .u8 x.kind] 5)) := k24.tr (Fx.alloc _ _ _)
      have oB : OwnI 5 .u8 w2.heap.size (w4.alloc (.cells #[.int .u8 76, .int .u8 68, .int .u8 1, .int .u8 x.kind] 5)) (.slice (some (At w4.heap.size 0)) 4 4) [76, 68, 1, x.kind] := OwnI.new w4 5 .u8 [76, 68, 1, x.kind] s4 (by show 4 ≤ 140737488355328; decide)
      have hu := hu.fx (Fx.alloc (fun _ => False) w4 (.cells #[.int .u8 76, .int .u8 68, .int .u8 1, .int .u8 x.kind] 5)) (fun _ _ h => h)
      generalize w4.alloc (.cells #[.int .u8 76, .int .u8 68, .int .u8 1, .int .u8 x.kind] 5) = w3 at *
      have s3 := kB.size
      obtain ⟨A4, c4, rfl, hc4, hr4⟩ := hu.slice
      refine goE_intro kB ?_
      simp -implicitDefEqProofs only [go_sem, seval]
      refine append_own ie8 (by decide) oB hr4 (by rw [show ([76, 68, 1, x.kind] : List Int).length = 4 from rfl]; omega) (by omega) ?_
      intro v6 w5 o6 f5 _
      have k5 := kB.new f5 (fun k e hk => by have := (oB.lt e).1; omega)
      refine goE_intro k5 ?_
      simp -implicitDefEqProofs only [go_sem, seval]
      exact hK' _ _ ⟨v6, by simp -implicitDefEqProofs only [go_sem, seval], by simp -implicitDefEqProofs only [go_sem, seval], o6, k5⟩
end Go.Proofs.Ytnlibeaainbipaa.F
