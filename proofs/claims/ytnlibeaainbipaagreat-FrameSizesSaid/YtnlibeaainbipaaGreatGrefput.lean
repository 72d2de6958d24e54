/- A message's bytes, as the document tells them. Conditions: it is data of its kind. -/
import Derived.Test.YtnlibeaainbipaaGreatGputeq
import Derived.Test.YtnlibeaainbipaaGreatGrefwl
import Derived.Test.YtnlibeaainbipaaGreatGmsame
namespace Go.Proofs.YtnlibeaainbipaaGreat.F
open Go.RowKit Go.Proofs.YtnlibeaainbipaaGreat.M Go.Proofs.YtnlibeaainbipaaGreat.V
open Nat (reduceEqDiff reduceAdd reduceLeDiff)
open Int (reduceToNat reducePow reduceEq reduceLE)
set_option linter.unusedSimpArgs false
set_option linter.unusedVariables false
set_option maxRecDepth 20000
theorem fc_B {f : Int} (hf : f ∈ letters) : (fc f).B ≤ 67441674 := by
  rcases letters_cases hf with rfl|rfl|rfl|rfl|rfl|rfl|rfl|rfl|rfl|rfl|rfl|rfl|rfl|rfl|rfl|rfl|rfl|rfl|rfl|rfl <;> exact of_decide_eq_true rfl
/-- What the document's writing of a message answers. -/
def RefPutV (w w' : World) (x : Msg) (v : Value) : Prop := (¬ PutOk x ∧ v = .tuple #[.slice none 0 0, .bool false]) ∨ (PutOk x ∧ ∃ v1 l, form x.kind = some l ∧ v = .tuple #[v1, .bool true] ∧ OwnI 5 .u8 w.heap.size w' v1 (encAll (nums l) x))
set_option maxHeartbeats 1600000 in
theorem refPutMsg_calls {w : World} {x : Msg} {cs : List Value} (hx : kMsg.rep (fun k => k < w.heap.size) w x cs) : callK Tryz.prog 15 #[.agg cs.toArray] w fun v w' => RefPutV w w' x v ∧ Keep w w' := by
  refine callK_of Tryz.func15 c15 r15 (by exact Nat.le_of_ble_eq_true rfl) ?_
  rw [m15]
  have h0 : cs[0]? = some (.int .u8 x.kind) := one_at (lnKind.get hx).1
  have hM1 : MsgAt 37 (fun k => k < w.heap.size) (w.alloc (.cells cs.toArray 37)) w.heap.size x := ⟨cs, Blk.new w _ _, kMsg.keep hx (Fx.alloc _ _ _)⟩
  have kA : Keep w (w.alloc (.cells cs.toArray 37)) := Fx.alloc _ w _
  have s1 := size_alloc w (.cells cs.toArray 37)
  simp -implicitDefEqProofs only [go_sem, ↓reduceIte, reduceEqDiff, Int.reduceLT, Nat.reduceLT, reduceToNat, reducePow, reduceAdd, reduceEq, reduceLeDiff, reduceLE, h0]
  generalize w.alloc (.cells cs.toArray 37) = w1 at *
  obtain ⟨bx, hbx⟩ : ∃ bx, bx = w.heap.size := ⟨_, rfl⟩
  rw [← hbx] at hM1 s1 ⊢
  refine (refForm_calls x.kind w1).mono ?_
  rintro v w2 (⟨hf, rfl, rfl⟩ | ⟨l, hf, A, rfl, hnames, k2⟩)
  · simp -implicitDefEqProofs only [go_sem, ↓reduceIte, reduceEqDiff, Int.reduceLT, Nat.reduceLT, reduceToNat, reducePow, reduceAdd, reduceEq, reduceLeDiff, reduceLE]
    refine seg_intro (fun w' => Keep w2 w') (Fx.drew _ _) ?_
    simp -implicitDefEqProofs only [go_sem, ↓reduceIte, reduceEqDiff, Int.reduceLT, Nat.reduceLT, reduceToNat, reducePow, reduceAdd, reduceEq, reduceLeDiff, reduceLE]
    refine gdH_off rfl (Fx.drew _ _) ?_
    simp -implicitDefEqProofs only [go_sem, ↓reduceIte, reduceEqDiff, Int.reduceLT, Nat.reduceLT, reduceToNat, reducePow, reduceAdd, reduceEq, reduceLeDiff, reduceLE]
    refine gdE_off rfl (Fx.drew _ _) ?_
    simp -implicitDefEqProofs only [go_sem, ↓reduceIte, reduceEqDiff, Int.reduceLT, Nat.reduceLT, reduceToNat, reducePow, reduceAdd, reduceEq, reduceLeDiff, reduceLE]
    refine gdE_off rfl (Fx.drew _ _) ?_
    simp -implicitDefEqProofs only [go_sem, ↓reduceIte, reduceEqDiff, Int.reduceLT, Nat.reduceLT, reduceToNat, reducePow, reduceAdd, reduceEq, reduceLeDiff, reduceLE]
    exact ⟨.inl ⟨fun h => (by have := h.1; unfold putMsg at this; rw [hf] at this; cases this), (by first | rfl | trivial)⟩, kA.tr (Fx.drew _ _)⟩
  · have hM2 := hM1.keep k2
    have hld : ∀ w', Keep w2 w' → ∃ ds, ldV Tryz.prog w' 37 (.pointer (some (At bx 0))) = some (.agg (List.toArray ds)) := fun w' k' => by
      obtain ⟨ds, h, _⟩ := msg_load (hM2.keep k')
      exact ⟨ds, h⟩
    simp -implicitDefEqProofs only [go_sem, ↓reduceIte, reduceEqDiff, Int.reduceLT, Nat.reduceLT, reduceToNat, reducePow, reduceAdd, reduceEq, reduceLeDiff, reduceLE]
    refine seg_intro (fun w' => Keep w2 w') (Fx.drew _ _) ?_
    simp -implicitDefEqProofs only [go_sem, ↓reduceIte, reduceEqDiff, Int.reduceLT, Nat.reduceLT, reduceToNat, reducePow, reduceAdd, reduceEq, reduceLeDiff, reduceLE]
    obtain ⟨dx, hdx, hrx⟩ := msg_load (hM2.keep (Fx.drew (fun _ => False) w2))
    have hbx2 : ∀ w', Keep w2 w' → ldV Tryz.prog w' 37 (.pointer (some (At bx 0))) = some (.agg dx.toArray) := by
      intro w' k'
      obtain ⟨cb, hb, hr⟩ := id hM2
      have hcl : cb.length = 28 := kMsg.len hr
      have e1 : ∀ wz, Keep w2 wz → ldV Tryz.prog wz 37 (.pointer (some (At bx 0))) = some (.agg cb.toArray) := fun wz kz => by
        have hci := cells_in (kz.blk hb (fun x => x)) 0 28
        rw [List.drop_zero, List.take_of_length_le (by omega)] at hci
        exact ldV_agg sh37 hcl hci
      rw [e1 _ (Fx.drew _ _)] at hdx
      rw [e1 w' k']; exact hdx
    refine hld_intro (.agg dx.toArray) (Fx.drew _ _) (fun w' hw' => by have := hbx2 w' hw'; simp -implicitDefEqProofs only [go_sem, ↓reduceIte, reduceEqDiff, Int.reduceLT, Nat.reduceLT, reduceToNat, reducePow, reduceAdd, reduceEq, reduceLeDiff, reduceLE, this]; exact ⟨trivial, trivial⟩) ?_
    simp -implicitDefEqProofs only [go_sem, ↓reduceIte, reduceEqDiff, Int.reduceLT, Nat.reduceLT, reduceToNat, reducePow, reduceAdd, reduceEq, reduceLeDiff, reduceLE, hdx]
    refine goE_intro (Fx.drew _ _) ?_
    simp -implicitDefEqProofs only [go_sem, ↓reduceIte, reduceEqDiff, Int.reduceLT, Nat.reduceLT, reduceToNat, reducePow, reduceAdd, reduceEq, reduceLeDiff, reduceLE]
    refine (refOnly_calls (kMsg.mono hrx fun k _ hk => by have := (Fx.drew (fun _ => False) w2).size; have := k2.size; omega)).mono ?_
    rintro v w3 ⟨ds, rfl, hr3, k3⟩
    refine goE_intro ((Fx.drew _ _).tr k3) ?_
    simp -implicitDefEqProofs only [go_sem, ↓reduceIte, reduceEqDiff, Int.reduceLT, Nat.reduceLT, reduceToNat, reducePow, reduceAdd, reduceEq, reduceLeDiff, reduceLE]
    refine (same_calls (kMsg.keep hrx k3) hr3).mono ?_
    rintro v w4 ⟨⟨q, rfl, hq⟩, k4⟩
    have kk4 : Keep w w4 := ((kA.tr k2).tr (Fx.drew _ _)).tr (k3.tr k4)
    have hRm := rmsg_of hx
    cases q with
    | false =>
      simp -implicitDefEqProofs only [go_sem, ↓reduceIte, reduceEqDiff, Int.reduceLT, Nat.reduceLT, reduceToNat, reducePow, reduceAdd, reduceEq, reduceLeDiff, reduceLE]
      exact ⟨.inl ⟨fun h => (by have := hq.2 ((putOk_iff hRm hf).1 h).1; cases this), (by first | rfl | trivial)⟩, kk4⟩
    | true =>
      have hxo := hq.1 rfl
      simp -implicitDefEqProofs only [go_sem, ↓reduceIte, reduceEqDiff, Int.reduceLT, Nat.reduceLT, reduceToNat, reducePow, reduceAdd, reduceEq, reduceLeDiff, reduceLE]
      have s4 := kk4.size
      obtain ⟨lo, hlo⟩ : ∃ lo, lo = w4.heap.size := ⟨_, rfl⟩
      have kn : Keep w1 w4 := (k2.tr (Fx.drew _ _)).tr (k3.tr k4)
      have hn4 : Elems Kind.str (fun k => k < lo) w4 A ((nums l).map nm) := (hnames.keep ((Fx.drew _ _).tr (k3.tr k4))).mono Nat.zero_lt_one fun k hk _ => by omega
      have hM4 : MsgAt 37 (fun k => k < bx) w4 bx x := hM1.keep kn
      have hbl := hM4.lt
      obtain ⟨hl7, hlet⟩ := form_ok hf
      refine loop_intro (fun q f w' => ∃ (i : Nat) (r : Bool) (bv : Value), q = l.size - i ∧ i ≤ l.size ∧ f 1 = .pointer (some (At bx 0)) ∧ f 4 = .slice A l.size l.size ∧ f 5 = .bool r ∧ f 6 = bv ∧ f 7 = .int .i64 i ∧ (r = true ↔ OkAll ((nums l).take i) x) ∧
          (r = true → (encAll ((nums l).take i) x).length ≤ i * 67441674 ∧ OwnI 5 .u8 lo w' bv (encAll ((nums l).take i) x)) ∧ Fx (Wb 5 w4 lo) w4 w') l.size
        ⟨0, true, _, rfl, by omega, by simp -implicitDefEqProofs only [go_sem, ↓reduceIte, reduceEqDiff, Int.reduceLT, Nat.reduceLT, reduceToNat, reducePow, reduceAdd, reduceEq, reduceLeDiff, reduceLE], by simp -implicitDefEqProofs only [go_sem, ↓reduceIte, reduceEqDiff, Int.reduceLT, Nat.reduceLT, reduceToNat, reducePow, reduceAdd, reduceEq, reduceLeDiff, reduceLE], by simp -implicitDefEqProofs only [go_sem, ↓reduceIte, reduceEqDiff, Int.reduceLT, Nat.reduceLT, reduceToNat, reducePow, reduceAdd, reduceEq, reduceLeDiff, reduceLE], by simp -implicitDefEqProofs only [go_sem, ↓reduceIte, reduceEqDiff, Int.reduceLT, Nat.reduceLT, reduceToNat, reducePow, reduceAdd, reduceEq, reduceLeDiff, reduceLE], by simp -implicitDefEqProofs only [go_sem, ↓reduceIte, reduceEqDiff, Int.reduceLT, Nat.reduceLT, reduceToNat, reducePow, reduceAdd, reduceEq, reduceLeDiff, reduceLE]; rfl, ⟨fun _ => fun f hf => by simp at hf, fun _ => rfl⟩, fun _ => ⟨by simp [encAll], OwnI.nil _ _ _ _⟩, Fx.refl _ _⟩ ?_
      rintro q f w6 ⟨i, r, bv, rfl, hi, g1, g4, g5, g6, g7, hok, hbytes, f6⟩
      have hM6 := hM4.fx f6 (Wb.low (by omega)) (fun k hk _ => Wb.low (by omega))
      have hn6 := hn4.fx f6 fun k hk => Wb.low hk
      have kk6 : Keep w w6 := kk4.new f6 (fun k e hk => by have := e.1; omega)
      have s6 := f6.size
      have bad : ¬ OkAll ((nums l).take i) x → ¬ PutOk x := fun hn hp => hn fun f hf2 => ((putOk_iff hRm hf).1 hp).2 f (List.mem_of_mem_take hf2)
      by_cases hlt : i < l.size
      · have i0 : (0 : Int) ≤ (i : Int) := by omega
        have i1 : (i : Int) < (l.size : Int) := by omega
        cases r with
        | false =>
          simp -implicitDefEqProofs only [go_sem, ↓reduceIte, reduceEqDiff, Int.reduceLT, Nat.reduceLT, reduceToNat, reducePow, reduceAdd, reduceEq, reduceLeDiff, reduceLE, g1, g4, g5, g6, g7, i1]
          exact ⟨.inl ⟨bad fun h => (by cases hok.2 h), (by first | rfl | trivial)⟩, kk6⟩
        | true =>
          obtain ⟨hel, o6⟩ := hbytes rfl
          have en : IntKind.i64.wrap ((i : Int) + 1) = ((i + 1 : Nat) : Int) := i64_nat (by omega) (by omega)
          obtain ⟨y, hy⟩ : ∃ y, (nums l)[i]? = some y := ⟨_, List.getElem?_eq_getElem (by rw [nums_len]; exact hlt)⟩
          have hyl := hlet y (List.mem_of_getElem? hy)
          have htk : (nums l).take (i + 1) = (nums l).take i ++ [y] := by
            rw [List.take_succ_eq_append_getElem (by rw [nums_len]; exact hlt)]
            rw [List.getElem?_eq_getElem (by rw [nums_len]; exact hlt)] at hy
            cases hy; rfl
          obtain ⟨ad, rfl, hname⟩ := elem_str hn6 (i := i) (x := nm y) (by rw [List.getElem?_map, hy]; rfl)
          rw [Nat.mul_one] at hname
          have hBy : (fc y).B ≤ 67441674 := fc_B hyl
          have hoki := hok.1 rfl
          have done : ∀ {wz : World} {f' : Fr} (r' : Bool) (bv' : Value), (r' = true ↔ (fc y).c.ok ((fc y).get x)) → (r' = true → OwnI 5 .u8 lo wz bv' (encAll ((nums l).take i) x ++ (fc y).c.wr ((fc y).get x))) → Fx (Wb 5 w6 lo) w6 wz →
              f' 1 = .pointer (some (At bx 0)) → f' 4 = .slice (some ad) l.size l.size → f' 5 = .bool r' → f' 6 = bv' → f' 7 = .int .i64 ((i + 1 : Nat) : Int) →
              decQ (fun q f w' => ∃ (i : Nat) (r : Bool) (bv : Value), q = l.size - i ∧ i ≤ l.size ∧ f 1 = .pointer (some (At bx 0)) ∧ f 4 = .slice (some ad) l.size l.size ∧ f 5 = .bool r ∧ f 6 = bv ∧ f 7 = .int .i64 i ∧ (r = true ↔ OkAll ((nums l).take i) x) ∧
                (r = true → (encAll ((nums l).take i) x).length ≤ i * 67441674 ∧ OwnI 5 .u8 lo w' bv (encAll ((nums l).take i) x)) ∧ Fx (Wb 5 w4 lo) w4 w') (l.size - i) f' wz := by
            intro wz f' r' bv' hr' hb' fz h1 h4 h5 h6 h7
            have he : encAll ((nums l).take (i + 1)) x = encAll ((nums l).take i) x ++ (fc y).c.wr ((fc y).get x) := by rw [htk]; simp [encAll]
            refine ⟨l.size - (i + 1), by omega, i + 1, r', bv', rfl, by omega, h1, h4, h5, h6, h7, ?_, fun h => ?_, Wb.tr f6 fz⟩
            · rw [hr', htk]
              exact ⟨fun h g hg => by
                rcases List.mem_append.1 hg with hg | hg
                · exact hoki g hg
                · simp at hg; subst hg; exact h, fun h => h y (by simp)⟩
            · rw [he]
              have := wr_len (fc y).W (hRm y hyl) (hr'.1 h)
              exact ⟨by rw [List.length_append]; omega, hb' h⟩
          rcases letters_cases hyl with rfl|rfl|rfl|rfl|rfl|rfl|rfl|rfl|rfl|rfl|rfl|rfl|rfl|rfl|rfl|rfl|rfl|rfl|rfl|rfl
          · have hcx : w6.cell? (ad.add i) = some (.string ⟨#[114, 101, 113]⟩) := hname
            obtain ⟨v, hc, hfz, hv, hwf⟩ := hM6.cell lnReq rfl
            simp only [List.cons.injEq, and_true] at hv
            subst hv
            have hr := unU32 hwf
            have e1 : IntKind.i64.wrap x.req = (x.req.toNat : Int) := by rw [i64_w, w64_id (by omega) (by omega)]; omega
            simp -implicitDefEqProofs only [go_sem, ↓reduceIte, reduceEqDiff, Int.reduceLT, Nat.reduceLT, reduceToNat, reducePow, reduceAdd, reduceEq, reduceLeDiff, reduceLE, g1, g4, g5, g6, g7, i0, i1, hcx, hc, e1, beq_self_eq_true]
            refine (refnum_calls (n := x.req.toNat) (by omega)).mono ?_
            rintro u w7 ⟨hu, k7⟩
            have hvn := vput_u64 (n := x.req.toNat) (by omega)
            simp -implicitDefEqProofs only [go_sem, ↓reduceIte, reduceEqDiff, Int.reduceLT, Nat.reduceLT, reduceToNat, reducePow, reduceAdd, reduceEq, reduceLeDiff, reduceLE, g6]
            refine put_behind o6 (by omega) k7 hu (by unfold top; omega) ?_
            intro v8 w8 o8 f8
            simp -implicitDefEqProofs only [go_sem, ↓reduceIte, reduceEqDiff, Int.reduceLT, Nat.reduceLT, reduceToNat, reducePow, reduceAdd, reduceEq, reduceLeDiff, reduceLE, g1, g4, g5, g7, en]
            refine done true v8 ⟨fun _ => hr, fun _ => rfl⟩ (fun _ => o8) f8 ?_ ?_ ?_ ?_ ?_
            all_goals simp -implicitDefEqProofs only [go_sem, ↓reduceIte, reduceEqDiff, Int.reduceLT, Nat.reduceLT, reduceToNat, reducePow, reduceAdd, reduceEq, reduceLeDiff, reduceLE, g1, g4, g5, g7]
          · have hcx : w6.cell? (ad.add i) = some (.string ⟨#[99, 97, 112, 115]⟩) := hname
            obtain ⟨v, hc, hfz, hv, hwf⟩ := hM6.cell lnCaps rfl
            simp only [List.cons.injEq, and_true] at hv
            subst hv
            have hr := unU32 hwf
            have e1 : IntKind.i64.wrap x.caps = (x.caps.toNat : Int) := by rw [i64_w, w64_id (by omega) (by omega)]; omega
            simp -implicitDefEqProofs only [go_sem, ↓reduceIte, reduceEqDiff, Int.reduceLT, Nat.reduceLT, reduceToNat, reducePow, reduceAdd, reduceEq, reduceLeDiff, reduceLE, g1, g4, g5, g6, g7, i0, i1, hcx, hc, e1, beq_self_eq_true]
            refine (refnum_calls (n := x.caps.toNat) (by omega)).mono ?_
            rintro u w7 ⟨hu, k7⟩
            have hvn := vput_u64 (n := x.caps.toNat) (by omega)
            simp -implicitDefEqProofs only [go_sem, ↓reduceIte, reduceEqDiff, Int.reduceLT, Nat.reduceLT, reduceToNat, reducePow, reduceAdd, reduceEq, reduceLeDiff, reduceLE, g6]
            refine put_behind o6 (by omega) k7 hu (by unfold top; omega) ?_
            intro v8 w8 o8 f8
            simp -implicitDefEqProofs only [go_sem, ↓reduceIte, reduceEqDiff, Int.reduceLT, Nat.reduceLT, reduceToNat, reducePow, reduceAdd, reduceEq, reduceLeDiff, reduceLE, g1, g4, g5, g7, en]
            refine done true v8 ⟨fun _ => hr, fun _ => rfl⟩ (fun _ => o8) f8 ?_ ?_ ?_ ?_ ?_
            all_goals simp -implicitDefEqProofs only [go_sem, ↓reduceIte, reduceEqDiff, Int.reduceLT, Nat.reduceLT, reduceToNat, reducePow, reduceAdd, reduceEq, reduceLeDiff, reduceLE, g1, g4, g5, g7]
          · have hcx : w6.cell? (ad.add i) = some (.string ⟨#[116, 111, 107, 101, 110]⟩) := hname
            obtain ⟨v, hc, hfz, hv, hwf⟩ := hM6.cell lnToken rfl
            simp only [List.cons.injEq, and_true] at hv
            subst hv
            have hr := unU64 hwf
            have e1 : x.token = (x.token.toNat : Int) := by omega
            rw [e1] at hc
            simp -implicitDefEqProofs only [go_sem, ↓reduceIte, reduceEqDiff, Int.reduceLT, Nat.reduceLT, reduceToNat, reducePow, reduceAdd, reduceEq, reduceLeDiff, reduceLE, g1, g4, g5, g6, g7, i0, i1, hcx, hc, beq_self_eq_true]
            refine (refPut_calls _ (show x.token.toNat < 18446744073709551616 by omega) w6).mono ?_
            rintro u w7 ⟨hu, k7⟩
            have hvn := vput_u64 (n := x.token.toNat) (by omega)
            simp -implicitDefEqProofs only [go_sem, ↓reduceIte, reduceEqDiff, Int.reduceLT, Nat.reduceLT, reduceToNat, reducePow, reduceAdd, reduceEq, reduceLeDiff, reduceLE, g6]
            refine put_behind o6 (by omega) k7 hu (by unfold top; omega) ?_
            intro v8 w8 o8 f8
            simp -implicitDefEqProofs only [go_sem, ↓reduceIte, reduceEqDiff, Int.reduceLT, Nat.reduceLT, reduceToNat, reducePow, reduceAdd, reduceEq, reduceLeDiff, reduceLE, g1, g4, g5, g7, en]
            refine done true v8 ⟨fun _ => hr, fun _ => rfl⟩ (fun _ => o8) f8 ?_ ?_ ?_ ?_ ?_
            all_goals simp -implicitDefEqProofs only [go_sem, ↓reduceIte, reduceEqDiff, Int.reduceLT, Nat.reduceLT, reduceToNat, reducePow, reduceAdd, reduceEq, reduceLeDiff, reduceLE, g1, g4, g5, g7]
          · have hcx : w6.cell? (ad.add i) = some (.string ⟨#[99, 111, 100, 101]⟩) := hname
            obtain ⟨v, hc, hfz, hv, hwf⟩ := hM6.cell lnCode rfl
            simp only [List.cons.injEq, and_true] at hv
            subst hv
            have hr := wf_u8' hwf
            have e1 : IntKind.i64.wrap x.code = (x.code.toNat : Int) := by rw [i64_w, w64_id (by omega) (by omega)]; omega
            simp -implicitDefEqProofs only [go_sem, ↓reduceIte, reduceEqDiff, Int.reduceLT, Nat.reduceLT, reduceToNat, reducePow, reduceAdd, reduceEq, reduceLeDiff, reduceLE, g1, g4, g5, g6, g7, i0, i1, hcx, hc, e1, beq_self_eq_true]
            refine (refnum_calls (n := x.code.toNat) (by omega)).mono ?_
            rintro u w7 ⟨hu, k7⟩
            have hvn := vput_u64 (n := x.code.toNat) (by omega)
            simp -implicitDefEqProofs only [go_sem, ↓reduceIte, reduceEqDiff, Int.reduceLT, Nat.reduceLT, reduceToNat, reducePow, reduceAdd, reduceEq, reduceLeDiff, reduceLE, g6]
            refine put_behind o6 (by omega) k7 hu (by unfold top; omega) ?_
            intro v8 w8 o8 f8
            simp -implicitDefEqProofs only [go_sem, ↓reduceIte, reduceEqDiff, Int.reduceLT, Nat.reduceLT, reduceToNat, reducePow, reduceAdd, reduceEq, reduceLeDiff, reduceLE, g1, g4, g5, g7, en]
            refine done true v8 ⟨fun _ => hr, fun _ => rfl⟩ (fun _ => o8) f8 ?_ ?_ ?_ ?_ ?_
            all_goals simp -implicitDefEqProofs only [go_sem, ↓reduceIte, reduceEqDiff, Int.reduceLT, Nat.reduceLT, reduceToNat, reducePow, reduceAdd, reduceEq, reduceLeDiff, reduceLE, g1, g4, g5, g7]
          · have hcx : w6.cell? (ad.add i) = some (.string ⟨#[110]⟩) := hname
            obtain ⟨v, hc, hfz, hv, hwf⟩ := hM6.cell lnN rfl
            simp only [List.cons.injEq, and_true] at hv
            subst hv
            have hr := unU32 hwf
            have e1 : IntKind.i64.wrap x.n = (x.n.toNat : Int) := by rw [i64_w, w64_id (by omega) (by omega)]; omega
            simp -implicitDefEqProofs only [go_sem, ↓reduceIte, reduceEqDiff, Int.reduceLT, Nat.reduceLT, reduceToNat, reducePow, reduceAdd, reduceEq, reduceLeDiff, reduceLE, g1, g4, g5, g6, g7, i0, i1, hcx, hc, e1, beq_self_eq_true]
            refine (refnum_calls (n := x.n.toNat) (by omega)).mono ?_
            rintro u w7 ⟨hu, k7⟩
            have hvn := vput_u64 (n := x.n.toNat) (by omega)
            simp -implicitDefEqProofs only [go_sem, ↓reduceIte, reduceEqDiff, Int.reduceLT, Nat.reduceLT, reduceToNat, reducePow, reduceAdd, reduceEq, reduceLeDiff, reduceLE, g6]
            refine put_behind o6 (by omega) k7 hu (by unfold top; omega) ?_
            intro v8 w8 o8 f8
            simp -implicitDefEqProofs only [go_sem, ↓reduceIte, reduceEqDiff, Int.reduceLT, Nat.reduceLT, reduceToNat, reducePow, reduceAdd, reduceEq, reduceLeDiff, reduceLE, g1, g4, g5, g7, en]
            refine done true v8 ⟨fun _ => hr, fun _ => rfl⟩ (fun _ => o8) f8 ?_ ?_ ?_ ?_ ?_
            all_goals simp -implicitDefEqProofs only [go_sem, ↓reduceIte, reduceEqDiff, Int.reduceLT, Nat.reduceLT, reduceToNat, reducePow, reduceAdd, reduceEq, reduceLeDiff, reduceLE, g1, g4, g5, g7]
          · have hcx : w6.cell? (ad.add i) = some (.string ⟨#[110, 97, 109, 101]⟩) := hname
            obtain ⟨v, hc, hfz, hv, hsz⟩ := hM6.cell lnName rfl
            simp only [List.cons.injEq, and_true] at hv
            subst hv
            simp -implicitDefEqProofs only [go_sem, ↓reduceIte, reduceEqDiff, Int.reduceLT, Nat.reduceLT, reduceToNat, reducePow, reduceAdd, reduceEq, reduceLeDiff, reduceLE, g1, g4, g5, g6, g7, i0, i1, hcx, hc, beq_self_eq_true]
            refine (reftext_calls x.name o6 (by omega) (by unfold top; omega)).mono ?_
            rintro v8 w8 (⟨hno, rfl, rfl⟩ | ⟨hyes, u8, rfl, o8, f8⟩)
            · simp -implicitDefEqProofs only [go_sem, ↓reduceIte, reduceEqDiff, Int.reduceLT, Nat.reduceLT, reduceToNat, reducePow, reduceAdd, reduceEq, reduceLeDiff, reduceLE, g1, g4, g5, g7, en]
              refine done false bv ⟨fun h => (by cases h), fun h => absurd h hno⟩ (fun h => (by cases h)) (Fx.refl _ _) ?_ ?_ ?_ ?_ ?_
              all_goals simp -implicitDefEqProofs only [go_sem, ↓reduceIte, reduceEqDiff, Int.reduceLT, Nat.reduceLT, reduceToNat, reducePow, reduceAdd, reduceEq, reduceLeDiff, reduceLE, g1, g4, g5, g7]
            · simp -implicitDefEqProofs only [go_sem, ↓reduceIte, reduceEqDiff, Int.reduceLT, Nat.reduceLT, reduceToNat, reducePow, reduceAdd, reduceEq, reduceLeDiff, reduceLE, g1, g4, g5, g7, en]
              refine done true u8 ⟨fun _ => hyes, fun _ => rfl⟩ (fun _ => o8) f8 ?_ ?_ ?_ ?_ ?_
              all_goals simp -implicitDefEqProofs only [go_sem, ↓reduceIte, reduceEqDiff, Int.reduceLT, Nat.reduceLT, reduceToNat, reducePow, reduceAdd, reduceEq, reduceLeDiff, reduceLE, g1, g4, g5, g7]
          · have hcx : w6.cell? (ad.add i) = some (.string ⟨#[99, 111, 110, 102]⟩) := hname
            obtain ⟨cx, hbx6, hrx6⟩ := id hM6
            have hv := lnConf.get hrx6
            have hci := cells_in hbx6 7 6
            have e3 : kConf.sz = 6 := rfl
            rw [e3] at hv
            obtain ⟨ecs, hsz, q1, q2, q3, q4⟩ := kConf_cases hv
            rw [ecs] at hci
            have r1 := wf_u8' q1
            have r2 := wf_u8' q2
            have r3 := wf_u8' q3
            have r4 := unU16 q4
            have hld := ldV_agg (P := Tryz.prog) (w := w6) sh27 (cs := [.string x.conf.name, .int .u8 x.conf.dim, .int .u8 x.conf.metric, .bool x.conf.graph, .int .u8 x.conf.links, .int .u16 x.conf.width]) rfl (ad := At bx 7) hci
            have hbc : Blk _ _ _ _ := Blk.new w6 27 #[.string ⟨#[]⟩, .int .u8 0, .int .u8 0, .bool false, .int .u8 0, .int .u16 0]
            have S0 := stB (P := Tryz.prog) (o := 0) sz27 hbc (by decide)
            have hbc2 : Blk _ _ _ #[.string x.conf.name, .int .u8 x.conf.dim, .int .u8 x.conf.metric, .bool x.conf.graph, .int .u8 x.conf.links, .int .u16 x.conf.width] := hbc.put 0 [.string x.conf.name, .int .u8 x.conf.dim, .int .u8 x.conf.metric, .bool x.conf.graph, .int .u8 x.conf.links, .int .u16 x.conf.width]
            have k7 : Keep w6 (putW (w6.alloc (.cells #[.string ⟨#[]⟩, .int .u8 0, .int .u8 0, .bool false, .int .u8 0, .int .u16 0] 27)) w6.heap.size 0 [.string x.conf.name, .int .u8 x.conf.dim, .int .u8 x.conf.metric, .bool x.conf.graph, .int .u8 x.conf.links, .int .u16 x.conf.width]) := (Fx.alloc (fun _ => False) w6 _).new (Fx.put (m := only w6.heap.size) _ _ _ _ rfl) (fun k e hk => by have : k = w6.heap.size := e; omega)
            simp -implicitDefEqProofs only [go_sem, ↓reduceIte, reduceEqDiff, Int.reduceLT, Nat.reduceLT, reduceToNat, reducePow, reduceAdd, reduceEq, reduceLeDiff, reduceLE, g1, g4, g5, g6, g7, i0, i1, hcx, hld, S0, beq_self_eq_true]
            generalize putW (w6.alloc (.cells #[.string ⟨#[]⟩, .int .u8 0, .int .u8 0, .bool false, .int .u8 0, .int .u16 0] 27)) w6.heap.size 0 [.string x.conf.name, .int .u8 x.conf.dim, .int .u8 x.conf.metric, .bool x.conf.graph, .int .u8 x.conf.links, .int .u16 x.conf.width] = w7 at *
            simp -implicitDefEqProofs only [go_sem, ↓reduceIte, reduceEqDiff, Int.reduceLT, Nat.reduceLT, reduceToNat, reducePow, reduceAdd, reduceEq, reduceLeDiff, reduceLE, hbc2.cell]
            have o7 := o6.fx k7 (fun _ _ x => x)
            have s7 := k7.size
            refine (reftext_calls x.conf.name o7 (by omega) (by unfold top; omega)).mono ?_
            intro v8 w8 h8
            obtain ⟨u8, r8, xs8, rfl, hr8, o8, f8, l8, e8⟩ : ∃ u8 r8 xs8, v8 = .tuple #[u8, .bool r8] ∧ (r8 = true ↔ ctext.ok x.conf.name) ∧ OwnI 5 .u8 lo w8 u8 xs8 ∧ Fx (Wb 5 w7 lo) w7 w8 ∧ xs8.length ≤ i * 67441674 + 4106 ∧ (r8 = true → xs8 = encAll ((nums l).take i) x ++ ctext.wr x.conf.name) := by
              rcases h8 with ⟨hno, rfl, rfl⟩ | ⟨hyes, u8, rfl, o8, f8⟩
              · exact ⟨bv, false, encAll ((nums l).take i) x, rfl, ⟨fun h => (by cases h), fun h => absurd h hno⟩, o7, Fx.refl _ _, Nat.le_trans hel (Nat.le_add_right _ _), fun h => (by cases h)⟩
              · have := wr_len wr_text trivial hyes
                exact ⟨u8, true, _, rfl, ⟨fun _ => hyes, fun _ => rfl⟩, o8, f8, by rw [List.length_append]; omega, fun _ => rfl⟩
            have facts : ∀ w', Fx (Wb 5 w7 lo) w7 w' → w'.cell? (At w6.heap.size 1) = some (.int .u8 x.conf.dim) ∧ w'.cell? (At w6.heap.size 2) = some (.int .u8 x.conf.metric) ∧ w'.cell? (At w6.heap.size 3) = some (.bool x.conf.graph) ∧ w'.cell? (At w6.heap.size 4) = some (.int .u8 x.conf.links) ∧ w'.cell? (At w6.heap.size 5) = some (.int .u16 x.conf.width) := by
              intro w' f'
              have hb := f'.blk hbc2 (Wb.not hbc2 (by decide))
              exact ⟨hb.cell 1, hb.cell 2, hb.cell 3, hb.cell 4, hb.cell 5⟩
            have E1 : IntKind.i64.wrap x.conf.dim = (x.conf.dim.toNat : Int) := by rw [i64_w, w64_id (by omega) (by omega)]; omega
            have E2 : IntKind.i64.wrap x.conf.metric = (x.conf.metric.toNat : Int) := by rw [i64_w, w64_id (by omega) (by omega)]; omega
            have E3 : IntKind.i64.wrap x.conf.links = (x.conf.links.toNat : Int) := by rw [i64_w, w64_id (by omega) (by omega)]; omega
            have E4 : IntKind.i64.wrap x.conf.width = (x.conf.width.toNat : Int) := by rw [i64_w, w64_id (by omega) (by omega)]; omega
            have N1 := vput_u64 (n := x.conf.dim.toNat) (by omega)
            have N2 := vput_u64 (n := x.conf.metric.toNat) (by omega)
            have N3 : (cflag.wr x.conf.graph).length ≤ 10 := by cases x.conf.graph <;> exact of_decide_eq_true (by kernel_rfl)
            have N4 := vput_u64 (n := x.conf.links.toNat) (by omega)
            have N5 := vput_u64 (n := x.conf.width.toNat) (by omega)
            have s8 := f8.size
            have cok : (fc 67).c.ok ((fc 67).get x) ↔ ctext.ok x.conf.name ∧ x.conf.metric ≤ 1 := by
              show (ctext.ok x.conf.name ∧ (0 ≤ x.conf.dim ∧ x.conf.dim ≤ 255) ∧ (0 ≤ x.conf.metric ∧ x.conf.metric ≤ 1) ∧ cflag.ok x.conf.graph ∧ (0 ≤ x.conf.links ∧ x.conf.links ≤ 255) ∧ 0 ≤ x.conf.width ∧ x.conf.width ≤ 65535) ∧ _ ↔ _
              exact ⟨fun h => ⟨h.1.1, h.1.2.2.1.2⟩, fun h => ⟨⟨h.1, by omega, by omega, cflag_ok _, by omega, by omega⟩, rfl⟩⟩
            obtain ⟨c1, c2, c3, c4, c5⟩ := facts w8 f8
            cases r8 with
            | false =>
              simp -implicitDefEqProofs only [go_sem, ↓reduceIte, reduceEqDiff, Int.reduceLT, Nat.reduceLT, reduceToNat, reducePow, reduceAdd, reduceEq, reduceLeDiff, reduceLE, g1, g4, g5, g7, c1, c2, E1]
              refine (refnum_calls (n := x.conf.dim.toNat) (by omega)).mono ?_
              rintro t1 wa ⟨hu, ka⟩
              simp -implicitDefEqProofs only [go_sem, ↓reduceIte, reduceEqDiff, Int.reduceLT, Nat.reduceLT, reduceToNat, reducePow, reduceAdd, reduceEq, reduceLeDiff, reduceLE]
              refine put_behind o8 (by omega) ka hu (by unfold top; omega) ?_
              intro b1 w1' o1 f1
              have F1 := Wb.tr f8 f1
              have z1 := f1.size
              obtain ⟨c1, c2, c3, c4, c5⟩ := facts w1' F1
              simp -implicitDefEqProofs only [go_sem, ↓reduceIte, reduceEqDiff, Int.reduceLT, Nat.reduceLT, reduceToNat, reducePow, reduceAdd, reduceEq, reduceLeDiff, reduceLE, c2, E2]
              refine (refnum_calls (n := x.conf.metric.toNat) (by omega)).mono ?_
              rintro t2 wb ⟨hu, kb⟩
              simp -implicitDefEqProofs only [go_sem, ↓reduceIte, reduceEqDiff, Int.reduceLT, Nat.reduceLT, reduceToNat, reducePow, reduceAdd, reduceEq, reduceLeDiff, reduceLE]
              refine put_behind o1 (by omega) kb hu (by rw [List.length_append]; unfold top; omega) ?_
              intro b2 w2' o2 f2
              have F2 := Wb.tr F1 f2
              have z2 := f2.size
              obtain ⟨c1, c2, c3, c4, c5⟩ := facts w2' F2
              simp -implicitDefEqProofs only [go_sem, ↓reduceIte, reduceEqDiff, Int.reduceLT, Nat.reduceLT, reduceToNat, reducePow, reduceAdd, reduceEq, reduceLeDiff, reduceLE, c3]
              refine (refflag_calls x.conf.graph).mono ?_
              rintro t3 wc ⟨hu, kc⟩
              simp -implicitDefEqProofs only [go_sem, ↓reduceIte, reduceEqDiff, Int.reduceLT, Nat.reduceLT, reduceToNat, reducePow, reduceAdd, reduceEq, reduceLeDiff, reduceLE]
              refine put_behind o2 (by omega) kc hu (by rw [List.length_append, List.length_append]; unfold top; omega) ?_
              intro b3 w3' o3 f3
              have F3 := Wb.tr F2 f3
              have z3 := f3.size
              obtain ⟨c1, c2, c3, c4, c5⟩ := facts w3' F3
              simp -implicitDefEqProofs only [go_sem, ↓reduceIte, reduceEqDiff, Int.reduceLT, Nat.reduceLT, reduceToNat, reducePow, reduceAdd, reduceEq, reduceLeDiff, reduceLE, c4, E3]
              refine (refnum_calls (n := x.conf.links.toNat) (by omega)).mono ?_
              rintro t4 wd ⟨hu, kd⟩
              simp -implicitDefEqProofs only [go_sem, ↓reduceIte, reduceEqDiff, Int.reduceLT, Nat.reduceLT, reduceToNat, reducePow, reduceAdd, reduceEq, reduceLeDiff, reduceLE]
              refine put_behind o3 (by omega) kd hu (by rw [List.length_append, List.length_append, List.length_append]; unfold top; omega) ?_
              intro b4 w4' o4 f4
              have F4 := Wb.tr F3 f4
              have z4 := f4.size
              obtain ⟨c1, c2, c3, c4, c5⟩ := facts w4' F4
              simp -implicitDefEqProofs only [go_sem, ↓reduceIte, reduceEqDiff, Int.reduceLT, Nat.reduceLT, reduceToNat, reducePow, reduceAdd, reduceEq, reduceLeDiff, reduceLE, c5, E4]
              refine (refnum_calls (n := x.conf.width.toNat) (by omega)).mono ?_
              rintro t5 we ⟨hu, ke⟩
              simp -implicitDefEqProofs only [go_sem, ↓reduceIte, reduceEqDiff, Int.reduceLT, Nat.reduceLT, reduceToNat, reducePow, reduceAdd, reduceEq, reduceLeDiff, reduceLE]
              refine put_behind o4 (by omega) ke hu (by rw [List.length_append, List.length_append, List.length_append, List.length_append]; unfold top; omega) ?_
              intro b5 w5' o5 f5
              have F5 := Wb.ktr k7 (Wb.tr F4 f5)
              simp -implicitDefEqProofs only [go_sem, ↓reduceIte, reduceEqDiff, Int.reduceLT, Nat.reduceLT, reduceToNat, reducePow, reduceAdd, reduceEq, reduceLeDiff, reduceLE, g1, g4, g5, g7, en]
              refine done false b5 ⟨fun h => (by cases h), fun h => hr8.2 (cok.1 h).1⟩ (fun h => (by cases h)) F5 ?_ ?_ ?_ ?_ ?_
              all_goals simp -implicitDefEqProofs only [go_sem, ↓reduceIte, reduceEqDiff, Int.reduceLT, Nat.reduceLT, reduceToNat, reducePow, reduceAdd, reduceEq, reduceLeDiff, reduceLE, g1, g4, g5, g7]
            | true =>
              by_cases hm : x.conf.metric < 2
              · simp -implicitDefEqProofs only [go_sem, ↓reduceIte, reduceEqDiff, Int.reduceLT, Nat.reduceLT, reduceToNat, reducePow, reduceAdd, reduceEq, reduceLeDiff, reduceLE, g1, g4, g5, g7, c1, c2, E1, hm]
                refine (refnum_calls (n := x.conf.dim.toNat) (by omega)).mono ?_
                rintro t1 wa ⟨hu, ka⟩
                simp -implicitDefEqProofs only [go_sem, ↓reduceIte, reduceEqDiff, Int.reduceLT, Nat.reduceLT, reduceToNat, reducePow, reduceAdd, reduceEq, reduceLeDiff, reduceLE]
                refine put_behind o8 (by omega) ka hu (by unfold top; omega) ?_
                intro b1 w1' o1 f1
                have F1 := Wb.tr f8 f1
                have z1 := f1.size
                obtain ⟨c1, c2, c3, c4, c5⟩ := facts w1' F1
                simp -implicitDefEqProofs only [go_sem, ↓reduceIte, reduceEqDiff, Int.reduceLT, Nat.reduceLT, reduceToNat, reducePow, reduceAdd, reduceEq, reduceLeDiff, reduceLE, c2, E2]
                refine (refnum_calls (n := x.conf.metric.toNat) (by omega)).mono ?_
                rintro t2 wb ⟨hu, kb⟩
                simp -implicitDefEqProofs only [go_sem, ↓reduceIte, reduceEqDiff, Int.reduceLT, Nat.reduceLT, reduceToNat, reducePow, reduceAdd, reduceEq, reduceLeDiff, reduceLE]
                refine put_behind o1 (by omega) kb hu (by rw [List.length_append]; unfold top; omega) ?_
                intro b2 w2' o2 f2
                have F2 := Wb.tr F1 f2
                have z2 := f2.size
                obtain ⟨c1, c2, c3, c4, c5⟩ := facts w2' F2
                simp -implicitDefEqProofs only [go_sem, ↓reduceIte, reduceEqDiff, Int.reduceLT, Nat.reduceLT, reduceToNat, reducePow, reduceAdd, reduceEq, reduceLeDiff, reduceLE, c3]
                refine (refflag_calls x.conf.graph).mono ?_
                rintro t3 wc ⟨hu, kc⟩
                simp -implicitDefEqProofs only [go_sem, ↓reduceIte, reduceEqDiff, Int.reduceLT, Nat.reduceLT, reduceToNat, reducePow, reduceAdd, reduceEq, reduceLeDiff, reduceLE]
                refine put_behind o2 (by omega) kc hu (by rw [List.length_append, List.length_append]; unfold top; omega) ?_
                intro b3 w3' o3 f3
                have F3 := Wb.tr F2 f3
                have z3 := f3.size
                obtain ⟨c1, c2, c3, c4, c5⟩ := facts w3' F3
                simp -implicitDefEqProofs only [go_sem, ↓reduceIte, reduceEqDiff, Int.reduceLT, Nat.reduceLT, reduceToNat, reducePow, reduceAdd, reduceEq, reduceLeDiff, reduceLE, c4, E3]
                refine (refnum_calls (n := x.conf.links.toNat) (by omega)).mono ?_
                rintro t4 wd ⟨hu, kd⟩
                simp -implicitDefEqProofs only [go_sem, ↓reduceIte, reduceEqDiff, Int.reduceLT, Nat.reduceLT, reduceToNat, reducePow, reduceAdd, reduceEq, reduceLeDiff, reduceLE]
                refine put_behind o3 (by omega) kd hu (by rw [List.length_append, List.length_append, List.length_append]; unfold top; omega) ?_
                intro b4 w4' o4 f4
                have F4 := Wb.tr F3 f4
                have z4 := f4.size
                obtain ⟨c1, c2, c3, c4, c5⟩ := facts w4' F4
                simp -implicitDefEqProofs only [go_sem, ↓reduceIte, reduceEqDiff, Int.reduceLT, Nat.reduceLT, reduceToNat, reducePow, reduceAdd, reduceEq, reduceLeDiff, reduceLE, c5, E4]
                refine (refnum_calls (n := x.conf.width.toNat) (by omega)).mono ?_
                rintro t5 we ⟨hu, ke⟩
                simp -implicitDefEqProofs only [go_sem, ↓reduceIte, reduceEqDiff, Int.reduceLT, Nat.reduceLT, reduceToNat, reducePow, reduceAdd, reduceEq, reduceLeDiff, reduceLE]
                refine put_behind o4 (by omega) ke hu (by rw [List.length_append, List.length_append, List.length_append, List.length_append]; unfold top; omega) ?_
                intro b5 w5' o5 f5
                have F5 := Wb.ktr k7 (Wb.tr F4 f5)
                simp -implicitDefEqProofs only [go_sem, ↓reduceIte, reduceEqDiff, Int.reduceLT, Nat.reduceLT, reduceToNat, reducePow, reduceAdd, reduceEq, reduceLeDiff, reduceLE, g1, g4, g5, g7, en]
                refine done true b5 ⟨fun _ => cok.2 ⟨hr8.1 rfl, by omega⟩, fun _ => rfl⟩ (fun _ => ?_) F5 ?_ ?_ ?_ ?_ ?_
                · have he : (fc 67).c.wr ((fc 67).get x) = ctext.wr x.conf.name ++ (vput x.conf.dim.toNat ++ (vput x.conf.metric.toNat ++ (cflag.wr x.conf.graph ++ (vput x.conf.links.toNat ++ vput x.conf.width.toNat)))) := rfl
                  rw [e8 rfl, List.append_assoc, List.append_assoc, List.append_assoc, List.append_assoc, List.append_assoc] at o5
                  rw [he]
                  simpa only [List.append_assoc] using o5
                all_goals simp -implicitDefEqProofs only [go_sem, ↓reduceIte, reduceEqDiff, Int.reduceLT, Nat.reduceLT, reduceToNat, reducePow, reduceAdd, reduceEq, reduceLeDiff, reduceLE, g1, g4, g5, g7]
              · simp -implicitDefEqProofs only [go_sem, ↓reduceIte, reduceEqDiff, Int.reduceLT, Nat.reduceLT, reduceToNat, reducePow, reduceAdd, reduceEq, reduceLeDiff, reduceLE, g1, g4, g5, g7, c1, c2, E1, hm]
                refine (refnum_calls (n := x.conf.dim.toNat) (by omega)).mono ?_
                rintro t1 wa ⟨hu, ka⟩
                simp -implicitDefEqProofs only [go_sem, ↓reduceIte, reduceEqDiff, Int.reduceLT, Nat.reduceLT, reduceToNat, reducePow, reduceAdd, reduceEq, reduceLeDiff, reduceLE]
                refine put_behind o8 (by omega) ka hu (by unfold top; omega) ?_
                intro b1 w1' o1 f1
                have F1 := Wb.tr f8 f1
                have z1 := f1.size
                obtain ⟨c1, c2, c3, c4, c5⟩ := facts w1' F1
                simp -implicitDefEqProofs only [go_sem, ↓reduceIte, reduceEqDiff, Int.reduceLT, Nat.reduceLT, reduceToNat, reducePow, reduceAdd, reduceEq, reduceLeDiff, reduceLE, c2, E2]
                refine (refnum_calls (n := x.conf.metric.toNat) (by omega)).mono ?_
                rintro t2 wb ⟨hu, kb⟩
                simp -implicitDefEqProofs only [go_sem, ↓reduceIte, reduceEqDiff, Int.reduceLT, Nat.reduceLT, reduceToNat, reducePow, reduceAdd, reduceEq, reduceLeDiff, reduceLE]
                refine put_behind o1 (by omega) kb hu (by rw [List.length_append]; unfold top; omega) ?_
                intro b2 w2' o2 f2
                have F2 := Wb.tr F1 f2
                have z2 := f2.size
                obtain ⟨c1, c2, c3, c4, c5⟩ := facts w2' F2
                simp -implicitDefEqProofs only [go_sem, ↓reduceIte, reduceEqDiff, Int.reduceLT, Nat.reduceLT, reduceToNat, reducePow, reduceAdd, reduceEq, reduceLeDiff, reduceLE, c3]
                refine (refflag_calls x.conf.graph).mono ?_
                rintro t3 wc ⟨hu, kc⟩
                simp -implicitDefEqProofs only [go_sem, ↓reduceIte, reduceEqDiff, Int.reduceLT, Nat.reduceLT, reduceToNat, reducePow, reduceAdd, reduceEq, reduceLeDiff, reduceLE]
                refine put_behind o2 (by omega) kc hu (by rw [List.length_append, List.length_append]; unfold top; omega) ?_
                intro b3 w3' o3 f3
                have F3 := Wb.tr F2 f3
                have z3 := f3.size
                obtain ⟨c1, c2, c3, c4, c5⟩ := facts w3' F3
                simp -implicitDefEqProofs only [go_sem, ↓reduceIte, reduceEqDiff, Int.reduceLT, Nat.reduceLT, reduceToNat, reducePow, reduceAdd, reduceEq, reduceLeDiff, reduceLE, c4, E3]
                refine (refnum_calls (n := x.conf.links.toNat) (by omega)).mono ?_
                rintro t4 wd ⟨hu, kd⟩
                simp -implicitDefEqProofs only [go_sem, ↓reduceIte, reduceEqDiff, Int.reduceLT, Nat.reduceLT, reduceToNat, reducePow, reduceAdd, reduceEq, reduceLeDiff, reduceLE]
                refine put_behind o3 (by omega) kd hu (by rw [List.length_append, List.length_append, List.length_append]; unfold top; omega) ?_
                intro b4 w4' o4 f4
                have F4 := Wb.tr F3 f4
                have z4 := f4.size
                obtain ⟨c1, c2, c3, c4, c5⟩ := facts w4' F4
                simp -implicitDefEqProofs only [go_sem, ↓reduceIte, reduceEqDiff, Int.reduceLT, Nat.reduceLT, reduceToNat, reducePow, reduceAdd, reduceEq, reduceLeDiff, reduceLE, c5, E4]
                refine (refnum_calls (n := x.conf.width.toNat) (by omega)).mono ?_
                rintro t5 we ⟨hu, ke⟩
                simp -implicitDefEqProofs only [go_sem, ↓reduceIte, reduceEqDiff, Int.reduceLT, Nat.reduceLT, reduceToNat, reducePow, reduceAdd, reduceEq, reduceLeDiff, reduceLE]
                refine put_behind o4 (by omega) ke hu (by rw [List.length_append, List.length_append, List.length_append, List.length_append]; unfold top; omega) ?_
                intro b5 w5' o5 f5
                have F5 := Wb.ktr k7 (Wb.tr F4 f5)
                simp -implicitDefEqProofs only [go_sem, ↓reduceIte, reduceEqDiff, Int.reduceLT, Nat.reduceLT, reduceToNat, reducePow, reduceAdd, reduceEq, reduceLeDiff, reduceLE, g1, g4, g5, g7, en]
                refine done false b5 ⟨fun h => (by cases h), fun h => absurd (cok.1 h).2 (by omega)⟩ (fun h => (by cases h)) F5 ?_ ?_ ?_ ?_ ?_
                all_goals simp -implicitDefEqProofs only [go_sem, ↓reduceIte, reduceEqDiff, Int.reduceLT, Nat.reduceLT, reduceToNat, reducePow, reduceAdd, reduceEq, reduceLeDiff, reduceLE, g1, g4, g5, g7]
          · have hcx : w6.cell? (ad.add i) = some (.string ⟨#[99, 104, 97, 110, 103, 101, 115]⟩) := hname
            obtain ⟨v, hc, hfz, hv⟩ := hM6.cell lnChanges rfl
            obtain ⟨B, cb, hvv, hlc, hcm, he⟩ := list_one hv
            simp only [List.cons.injEq, and_true] at hvv
            subst hvv
            simp -implicitDefEqProofs only [go_sem, ↓reduceIte, reduceEqDiff, Int.reduceLT, Nat.reduceLT, reduceToNat, reducePow, reduceAdd, reduceEq, reduceLeDiff, reduceLE, g1, g4, g5, g6, g7, i0, i1, hcx, hc, beq_self_eq_true]
            refine (refchanges_calls (by simp only [maxLen] at hcm; omega) he (fun k hk => by omega) o6 (by omega) (by unfold top; omega)).mono ?_
            rintro v8 w8 ⟨u8, r8, rfl, hok8, ho8, f8⟩
            simp -implicitDefEqProofs only [go_sem, ↓reduceIte, reduceEqDiff, Int.reduceLT, Nat.reduceLT, reduceToNat, reducePow, reduceAdd, reduceEq, reduceLeDiff, reduceLE, g1, g4, g5, g7, en]
            refine done r8 u8 hok8 ho8 f8 ?_ ?_ ?_ ?_ ?_
            all_goals simp -implicitDefEqProofs only [go_sem, ↓reduceIte, reduceEqDiff, Int.reduceLT, Nat.reduceLT, reduceToNat, reducePow, reduceAdd, reduceEq, reduceLeDiff, reduceLE, g1, g4, g5, g7]
          · have hcx : w6.cell? (ad.add i) = some (.string ⟨#[105, 100]⟩) := hname
            obtain ⟨v, hc, hfz, hv, hwf⟩ := hM6.cell lnId rfl
            simp only [List.cons.injEq, and_true] at hv
            subst hv
            have hr := unU32 hwf
            have e1 : IntKind.i64.wrap x.id = (x.id.toNat : Int) := by rw [i64_w, w64_id (by omega) (by omega)]; omega
            simp -implicitDefEqProofs only [go_sem, ↓reduceIte, reduceEqDiff, Int.reduceLT, Nat.reduceLT, reduceToNat, reducePow, reduceAdd, reduceEq, reduceLeDiff, reduceLE, g1, g4, g5, g6, g7, i0, i1, hcx, hc, e1, beq_self_eq_true]
            refine (refnum_calls (n := x.id.toNat) (by omega)).mono ?_
            rintro u w7 ⟨hu, k7⟩
            have hvn := vput_u64 (n := x.id.toNat) (by omega)
            simp -implicitDefEqProofs only [go_sem, ↓reduceIte, reduceEqDiff, Int.reduceLT, Nat.reduceLT, reduceToNat, reducePow, reduceAdd, reduceEq, reduceLeDiff, reduceLE, g6]
            refine put_behind o6 (by omega) k7 hu (by unfold top; omega) ?_
            intro v8 w8 o8 f8
            simp -implicitDefEqProofs only [go_sem, ↓reduceIte, reduceEqDiff, Int.reduceLT, Nat.reduceLT, reduceToNat, reducePow, reduceAdd, reduceEq, reduceLeDiff, reduceLE, g1, g4, g5, g7, en]
            refine done true v8 ⟨fun _ => hr, fun _ => rfl⟩ (fun _ => o8) f8 ?_ ?_ ?_ ?_ ?_
            all_goals simp -implicitDefEqProofs only [go_sem, ↓reduceIte, reduceEqDiff, Int.reduceLT, Nat.reduceLT, reduceToNat, reducePow, reduceAdd, reduceEq, reduceLeDiff, reduceLE, g1, g4, g5, g7]
          · have hcx : w6.cell? (ad.add i) = some (.string ⟨#[118, 101, 99]⟩) := hname
            obtain ⟨v, hc, hfz, hv⟩ := hM6.cell lnVec rfl
            obtain ⟨B, cb, hvv, hlc, hcm, he⟩ := list_one hv
            simp only [List.cons.injEq, and_true] at hvv
            subst hvv
            simp -implicitDefEqProofs only [go_sem, ↓reduceIte, reduceEqDiff, Int.reduceLT, Nat.reduceLT, reduceToNat, reducePow, reduceAdd, reduceEq, reduceLeDiff, reduceLE, g1, g4, g5, g6, g7, i0, i1, hcx, hc, beq_self_eq_true]
            refine (refvec_calls (by simp only [maxLen] at hcm; omega) he (fun k hk => by omega) o6 (by omega) (by unfold top; omega)).mono ?_
            rintro v8 w8 ⟨u8, r8, rfl, hok8, ho8, f8⟩
            simp -implicitDefEqProofs only [go_sem, ↓reduceIte, reduceEqDiff, Int.reduceLT, Nat.reduceLT, reduceToNat, reducePow, reduceAdd, reduceEq, reduceLeDiff, reduceLE, g1, g4, g5, g7, en]
            refine done r8 u8 hok8 ho8 f8 ?_ ?_ ?_ ?_ ?_
            all_goals simp -implicitDefEqProofs only [go_sem, ↓reduceIte, reduceEqDiff, Int.reduceLT, Nat.reduceLT, reduceToNat, reducePow, reduceAdd, reduceEq, reduceLeDiff, reduceLE, g1, g4, g5, g7]
          · have hcx : w6.cell? (ad.add i) = some (.string ⟨#[107]⟩) := hname
            obtain ⟨v, hc, hfz, hv, hwf⟩ := hM6.cell lnK rfl
            simp only [List.cons.injEq, and_true] at hv
            subst hv
            have hr := unU16 hwf
            have e1 : IntKind.i64.wrap x.k = (x.k.toNat : Int) := by rw [i64_w, w64_id (by omega) (by omega)]; omega
            simp -implicitDefEqProofs only [go_sem, ↓reduceIte, reduceEqDiff, Int.reduceLT, Nat.reduceLT, reduceToNat, reducePow, reduceAdd, reduceEq, reduceLeDiff, reduceLE, g1, g4, g5, g6, g7, i0, i1, hcx, hc, e1, beq_self_eq_true]
            refine (refnum_calls (n := x.k.toNat) (by omega)).mono ?_
            rintro u w7 ⟨hu, k7⟩
            have hvn := vput_u64 (n := x.k.toNat) (by omega)
            simp -implicitDefEqProofs only [go_sem, ↓reduceIte, reduceEqDiff, Int.reduceLT, Nat.reduceLT, reduceToNat, reducePow, reduceAdd, reduceEq, reduceLeDiff, reduceLE, g6]
            refine put_behind o6 (by omega) k7 hu (by unfold top; omega) ?_
            intro v8 w8 o8 f8
            simp -implicitDefEqProofs only [go_sem, ↓reduceIte, reduceEqDiff, Int.reduceLT, Nat.reduceLT, reduceToNat, reducePow, reduceAdd, reduceEq, reduceLeDiff, reduceLE, g1, g4, g5, g7, en]
            refine done true v8 ⟨fun _ => hr, fun _ => rfl⟩ (fun _ => o8) f8 ?_ ?_ ?_ ?_ ?_
            all_goals simp -implicitDefEqProofs only [go_sem, ↓reduceIte, reduceEqDiff, Int.reduceLT, Nat.reduceLT, reduceToNat, reducePow, reduceAdd, reduceEq, reduceLeDiff, reduceLE, g1, g4, g5, g7]
          · have hcx : w6.cell? (ad.add i) = some (.string ⟨#[119, 105, 100, 116, 104]⟩) := hname
            obtain ⟨v, hc, hfz, hv, hwf⟩ := hM6.cell lnWidth rfl
            simp only [List.cons.injEq, and_true] at hv
            subst hv
            have hr := unU16 hwf
            have e1 : IntKind.i64.wrap x.width = (x.width.toNat : Int) := by rw [i64_w, w64_id (by omega) (by omega)]; omega
            simp -implicitDefEqProofs only [go_sem, ↓reduceIte, reduceEqDiff, Int.reduceLT, Nat.reduceLT, reduceToNat, reducePow, reduceAdd, reduceEq, reduceLeDiff, reduceLE, g1, g4, g5, g6, g7, i0, i1, hcx, hc, e1, beq_self_eq_true]
            refine (refnum_calls (n := x.width.toNat) (by omega)).mono ?_
            rintro u w7 ⟨hu, k7⟩
            have hvn := vput_u64 (n := x.width.toNat) (by omega)
            simp -implicitDefEqProofs only [go_sem, ↓reduceIte, reduceEqDiff, Int.reduceLT, Nat.reduceLT, reduceToNat, reducePow, reduceAdd, reduceEq, reduceLeDiff, reduceLE, g6]
            refine put_behind o6 (by omega) k7 hu (by unfold top; omega) ?_
            intro v8 w8 o8 f8
            simp -implicitDefEqProofs only [go_sem, ↓reduceIte, reduceEqDiff, Int.reduceLT, Nat.reduceLT, reduceToNat, reducePow, reduceAdd, reduceEq, reduceLeDiff, reduceLE, g1, g4, g5, g7, en]
            refine done true v8 ⟨fun _ => hr, fun _ => rfl⟩ (fun _ => o8) f8 ?_ ?_ ?_ ?_ ?_
            all_goals simp -implicitDefEqProofs only [go_sem, ↓reduceIte, reduceEqDiff, Int.reduceLT, Nat.reduceLT, reduceToNat, reducePow, reduceAdd, reduceEq, reduceLeDiff, reduceLE, g1, g4, g5, g7]
          · have hcx : w6.cell? (ad.add i) = some (.string ⟨#[102, 105, 108, 116, 101, 114]⟩) := hname
            obtain ⟨cx, hbx6, hrx6⟩ := id hM6
            have hv := lnFilter.get hrx6
            have hci := cells_in hbx6 18 3
            have e3 : kFilter.sz = 3 := rfl
            rw [e3] at hv
            obtain ⟨A1, a1, A2, a2, A3, a3, ecs, m1, m2, m3, l1, l2, l3, e1, e2, e3⟩ := kFilter_cases hv
            rw [ecs] at hci
            simp only [maxLen] at m1 m2 m3
            have facts : ∀ w', Fx (Wb 5 w6 lo) w6 w' → w'.cell? (At bx 18) = some (.slice A1 x.filter.all.length a1) ∧ w'.cell? (At bx 19) = some (.slice A2 x.filter.any.length a2) ∧ w'.cell? (At bx 20) = some (.slice A3 x.filter.none.length a3) := by
              intro w' f'
              have kx := hci.ext (w' := w') (fun _ => f'.block _ (by show bx < _; omega) (Wb.low (by show bx < lo; omega)))
              refine ⟨?_, ?_, ?_⟩
              · have := kx 0 _ rfl; rwa [at_add] at this
              · have := kx 1 _ rfl; rwa [at_add] at this
              · have := kx 2 _ rfl; rwa [at_add] at this
            obtain ⟨c1, c2, c3⟩ := facts w6 (Fx.refl _ _)
            have cok : cfilter.ok x.filter ↔ ctexts.ok x.filter.all ∧ ctexts.ok x.filter.any ∧ ctexts.ok x.filter.none := by
              show (ctexts.ok _ ∧ ctexts.ok _ ∧ ctexts.ok _) ∧ _ ↔ _
              exact ⟨fun h => h.1, fun h => ⟨h, rfl⟩⟩
            simp -implicitDefEqProofs only [go_sem, ↓reduceIte, reduceEqDiff, Int.reduceLT, Nat.reduceLT, reduceToNat, reducePow, reduceAdd, reduceEq, reduceLeDiff, reduceLE, g1, g4, g5, g6, g7, i0, i1, hcx, c1, beq_self_eq_true]
            refine (reftexts_calls (by omega) e1 (fun k hk => by omega) o6 (by omega) (by unfold top; omega)).mono ?_
            rintro v8 w8 ⟨u8, r8, rfl, hok8, ho8, f8⟩
            cases r8 with
            | false =>
              simp -implicitDefEqProofs only [go_sem, ↓reduceIte, reduceEqDiff, Int.reduceLT, Nat.reduceLT, reduceToNat, reducePow, reduceAdd, reduceEq, reduceLeDiff, reduceLE, g1, g4, g5, g7, en]
              refine done false u8 ⟨fun h => (by cases h), fun h => hok8.2 (cok.1 h).1⟩ (fun h => (by cases h)) f8 ?_ ?_ ?_ ?_ ?_
              all_goals simp -implicitDefEqProofs only [go_sem, ↓reduceIte, reduceEqDiff, Int.reduceLT, Nat.reduceLT, reduceToNat, reducePow, reduceAdd, reduceEq, reduceLeDiff, reduceLE, g1, g4, g5, g7]
            | true =>
              have o8 := ho8 rfl
              have n8 := wr_len wr_texts trivial (hok8.1 rfl)
              have s8 := f8.size
              have hl8 : (encAll ((nums l).take i) x ++ ctexts.wr x.filter.all).length ≤ i * 67441674 + 525578 := by rw [List.length_append]; omega
              obtain ⟨c1, c2, c3⟩ := facts w8 f8
              simp -implicitDefEqProofs only [go_sem, ↓reduceIte, reduceEqDiff, Int.reduceLT, Nat.reduceLT, reduceToNat, reducePow, reduceAdd, reduceEq, reduceLeDiff, reduceLE, g1, c2]
              refine (reftexts_calls (by omega) (e2.fx f8 fun k hk => Wb.low (by omega)) (fun k hk => by omega) o8 (by omega) (by unfold top; omega)).mono ?_
              rintro v9 w9 ⟨u9, r9, rfl, hok9, ho9, f9⟩
              cases r9 with
              | false =>
                simp -implicitDefEqProofs only [go_sem, ↓reduceIte, reduceEqDiff, Int.reduceLT, Nat.reduceLT, reduceToNat, reducePow, reduceAdd, reduceEq, reduceLeDiff, reduceLE, g1, g4, g5, g7, en]
                refine done false u9 ⟨fun h => (by cases h), fun h => hok9.2 (cok.1 h).2.1⟩ (fun h => (by cases h)) (Wb.tr f8 f9) ?_ ?_ ?_ ?_ ?_
                all_goals simp -implicitDefEqProofs only [go_sem, ↓reduceIte, reduceEqDiff, Int.reduceLT, Nat.reduceLT, reduceToNat, reducePow, reduceAdd, reduceEq, reduceLeDiff, reduceLE, g1, g4, g5, g7]
              | true =>
                have o9 := ho9 rfl
                have n9 := wr_len wr_texts trivial (hok9.1 rfl)
                have s9 := f9.size
                have hl9 : (encAll ((nums l).take i) x ++ ctexts.wr x.filter.all ++ ctexts.wr x.filter.any).length ≤ i * 67441674 + 1051156 := by rw [List.length_append]; omega
                obtain ⟨c1, c2, c3⟩ := facts w9 (Wb.tr f8 f9)
                simp -implicitDefEqProofs only [go_sem, ↓reduceIte, reduceEqDiff, Int.reduceLT, Nat.reduceLT, reduceToNat, reducePow, reduceAdd, reduceEq, reduceLeDiff, reduceLE, g1, c3]
                refine (reftexts_calls (by omega) (e3.fx (Wb.tr f8 f9) fun k hk => Wb.low (by omega)) (fun k hk => by omega) o9 (by omega) (by unfold top; omega)).mono ?_
                rintro va wa ⟨ua, ra, rfl, hoka, hoa, fa⟩
                simp -implicitDefEqProofs only [go_sem, ↓reduceIte, reduceEqDiff, Int.reduceLT, Nat.reduceLT, reduceToNat, reducePow, reduceAdd, reduceEq, reduceLeDiff, reduceLE, g1, g4, g5, g7, en]
                refine done ra ua ⟨fun h => cok.2 ⟨hok8.1 rfl, hok9.1 rfl, hoka.1 h⟩, fun h => hoka.2 (cok.1 h).2.2⟩ (fun h => ?_) (Wb.tr f8 (Wb.tr f9 fa)) ?_ ?_ ?_ ?_ ?_
                · have := hoa h
                  rw [List.append_assoc, List.append_assoc] at this
                  exact this
                all_goals simp -implicitDefEqProofs only [go_sem, ↓reduceIte, reduceEqDiff, Int.reduceLT, Nat.reduceLT, reduceToNat, reducePow, reduceAdd, reduceEq, reduceLeDiff, reduceLE, g1, g4, g5, g7]
          · have hcx : w6.cell? (ad.add i) = some (.string ⟨#[110, 117, 109]⟩) := hname
            obtain ⟨v, hc, hfz, hv, hwf⟩ := hM6.cell lnNum rfl
            simp only [List.cons.injEq, and_true] at hv
            subst hv
            have hr := unU32 hwf
            have e1 : IntKind.i64.wrap x.num = (x.num.toNat : Int) := by rw [i64_w, w64_id (by omega) (by omega)]; omega
            simp -implicitDefEqProofs only [go_sem, ↓reduceIte, reduceEqDiff, Int.reduceLT, Nat.reduceLT, reduceToNat, reducePow, reduceAdd, reduceEq, reduceLeDiff, reduceLE, g1, g4, g5, g6, g7, i0, i1, hcx, hc, e1, beq_self_eq_true]
            refine (refnum_calls (n := x.num.toNat) (by omega)).mono ?_
            rintro u w7 ⟨hu, k7⟩
            have hvn := vput_u64 (n := x.num.toNat) (by omega)
            simp -implicitDefEqProofs only [go_sem, ↓reduceIte, reduceEqDiff, Int.reduceLT, Nat.reduceLT, reduceToNat, reducePow, reduceAdd, reduceEq, reduceLeDiff, reduceLE, g6]
            refine put_behind o6 (by omega) k7 hu (by unfold top; omega) ?_
            intro v8 w8 o8 f8
            simp -implicitDefEqProofs only [go_sem, ↓reduceIte, reduceEqDiff, Int.reduceLT, Nat.reduceLT, reduceToNat, reducePow, reduceAdd, reduceEq, reduceLeDiff, reduceLE, g1, g4, g5, g7, en]
            refine done true v8 ⟨fun _ => hr, fun _ => rfl⟩ (fun _ => o8) f8 ?_ ?_ ?_ ?_ ?_
            all_goals simp -implicitDefEqProofs only [go_sem, ↓reduceIte, reduceEqDiff, Int.reduceLT, Nat.reduceLT, reduceToNat, reducePow, reduceAdd, reduceEq, reduceLeDiff, reduceLE, g1, g4, g5, g7]
          · have hcx : w6.cell? (ad.add i) = some (.string ⟨#[112, 97, 103, 101]⟩) := hname
            obtain ⟨v, hc, hfz, hv, hwf⟩ := hM6.cell lnPage rfl
            simp only [List.cons.injEq, and_true] at hv
            subst hv
            have hr := unU32 hwf
            have e1 : IntKind.i64.wrap x.page = (x.page.toNat : Int) := by rw [i64_w, w64_id (by omega) (by omega)]; omega
            simp -implicitDefEqProofs only [go_sem, ↓reduceIte, reduceEqDiff, Int.reduceLT, Nat.reduceLT, reduceToNat, reducePow, reduceAdd, reduceEq, reduceLeDiff, reduceLE, g1, g4, g5, g6, g7, i0, i1, hcx, hc, e1, beq_self_eq_true]
            refine (refnum_calls (n := x.page.toNat) (by omega)).mono ?_
            rintro u w7 ⟨hu, k7⟩
            have hvn := vput_u64 (n := x.page.toNat) (by omega)
            simp -implicitDefEqProofs only [go_sem, ↓reduceIte, reduceEqDiff, Int.reduceLT, Nat.reduceLT, reduceToNat, reducePow, reduceAdd, reduceEq, reduceLeDiff, reduceLE, g6]
            refine put_behind o6 (by omega) k7 hu (by unfold top; omega) ?_
            intro v8 w8 o8 f8
            simp -implicitDefEqProofs only [go_sem, ↓reduceIte, reduceEqDiff, Int.reduceLT, Nat.reduceLT, reduceToNat, reducePow, reduceAdd, reduceEq, reduceLeDiff, reduceLE, g1, g4, g5, g7, en]
            refine done true v8 ⟨fun _ => hr, fun _ => rfl⟩ (fun _ => o8) f8 ?_ ?_ ?_ ?_ ?_
            all_goals simp -implicitDefEqProofs only [go_sem, ↓reduceIte, reduceEqDiff, Int.reduceLT, Nat.reduceLT, reduceToNat, reducePow, reduceAdd, reduceEq, reduceLeDiff, reduceLE, g1, g4, g5, g7]
          · have hcx : w6.cell? (ad.add i) = some (.string ⟨#[98, 121, 116, 101, 115]⟩) := hname
            obtain ⟨v, hc, hfz, hv⟩ := hM6.cell lnBytes rfl
            obtain ⟨B, cb, hvv, hlc, hcm, he⟩ := list_one hv
            simp only [List.cons.injEq, and_true] at hvv
            subst hvv
            simp -implicitDefEqProofs only [go_sem, ↓reduceIte, reduceEqDiff, Int.reduceLT, Nat.reduceLT, reduceToNat, reducePow, reduceAdd, reduceEq, reduceLeDiff, reduceLE, g1, g4, g5, g6, g7, i0, i1, hcx, hc, beq_self_eq_true]
            refine cv_bytes bs8 he.rd ?_
            have hnm : nums (strOfNums x.bytes) = x.bytes := nums_str he.bs
            have hcw : ctext.wr (strOfNums x.bytes) = cbytes.wr x.bytes := by show cbytes.wr (nums _) = _; rw [hnm]
            have hco : ctext.ok (strOfNums x.bytes) ↔ cbytes.ok x.bytes := by
              rw [ctext_ok, strOfNums_size]
              exact ⟨fun h => ⟨h, he.bs⟩, fun h => h.1⟩
            simp -implicitDefEqProofs only [go_sem, ↓reduceIte, reduceEqDiff, Int.reduceLT, Nat.reduceLT, reduceToNat, reducePow, reduceAdd, reduceEq, reduceLeDiff, reduceLE, g6]
            refine (reftext_calls (strOfNums x.bytes) o6 (by omega) (by unfold top; omega)).mono ?_
            rw [hcw, hco]
            rintro v8 w8 (⟨hno, rfl, rfl⟩ | ⟨hyes, u8, rfl, o8, f8⟩)
            · simp -implicitDefEqProofs only [go_sem, ↓reduceIte, reduceEqDiff, Int.reduceLT, Nat.reduceLT, reduceToNat, reducePow, reduceAdd, reduceEq, reduceLeDiff, reduceLE, g1, g4, g5, g7, en]
              refine done false bv ⟨fun h => (by cases h), fun h => absurd h hno⟩ (fun h => (by cases h)) (Fx.refl _ _) ?_ ?_ ?_ ?_ ?_
              all_goals simp -implicitDefEqProofs only [go_sem, ↓reduceIte, reduceEqDiff, Int.reduceLT, Nat.reduceLT, reduceToNat, reducePow, reduceAdd, reduceEq, reduceLeDiff, reduceLE, g1, g4, g5, g7]
            · simp -implicitDefEqProofs only [go_sem, ↓reduceIte, reduceEqDiff, Int.reduceLT, Nat.reduceLT, reduceToNat, reducePow, reduceAdd, reduceEq, reduceLeDiff, reduceLE, g1, g4, g5, g7, en]
              refine done true u8 ⟨fun _ => hyes, fun _ => rfl⟩ (fun _ => o8) f8 ?_ ?_ ?_ ?_ ?_
              all_goals simp -implicitDefEqProofs only [go_sem, ↓reduceIte, reduceEqDiff, Int.reduceLT, Nat.reduceLT, reduceToNat, reducePow, reduceAdd, reduceEq, reduceLeDiff, reduceLE, g1, g4, g5, g7]
          · have hcx : w6.cell? (ad.add i) = some (.string ⟨#[118, 101, 114, 115, 105, 111, 110]⟩) := hname
            obtain ⟨v, hc, hfz, hv, hwf⟩ := hM6.cell lnVersion rfl
            simp only [List.cons.injEq, and_true] at hv
            subst hv
            have hr := unU64 hwf
            have e1 : x.version = (x.version.toNat : Int) := by omega
            rw [e1] at hc
            simp -implicitDefEqProofs only [go_sem, ↓reduceIte, reduceEqDiff, Int.reduceLT, Nat.reduceLT, reduceToNat, reducePow, reduceAdd, reduceEq, reduceLeDiff, reduceLE, g1, g4, g5, g6, g7, i0, i1, hcx, hc, beq_self_eq_true]
            refine (refPut_calls _ (show x.version.toNat < 18446744073709551616 by omega) w6).mono ?_
            rintro u w7 ⟨hu, k7⟩
            have hvn := vput_u64 (n := x.version.toNat) (by omega)
            simp -implicitDefEqProofs only [go_sem, ↓reduceIte, reduceEqDiff, Int.reduceLT, Nat.reduceLT, reduceToNat, reducePow, reduceAdd, reduceEq, reduceLeDiff, reduceLE, g6]
            refine put_behind o6 (by omega) k7 hu (by unfold top; omega) ?_
            intro v8 w8 o8 f8
            simp -implicitDefEqProofs only [go_sem, ↓reduceIte, reduceEqDiff, Int.reduceLT, Nat.reduceLT, reduceToNat, reducePow, reduceAdd, reduceEq, reduceLeDiff, reduceLE, g1, g4, g5, g7, en]
            refine done true v8 ⟨fun _ => hr, fun _ => rfl⟩ (fun _ => o8) f8 ?_ ?_ ?_ ?_ ?_
            all_goals simp -implicitDefEqProofs only [go_sem, ↓reduceIte, reduceEqDiff, Int.reduceLT, Nat.reduceLT, reduceToNat, reducePow, reduceAdd, reduceEq, reduceLeDiff, reduceLE, g1, g4, g5, g7]
          · have hcx : w6.cell? (ad.add i) = some (.string ⟨#[110, 97, 109, 101, 115]⟩) := hname
            obtain ⟨v, hc, hfz, hv⟩ := hM6.cell lnNames rfl
            obtain ⟨B, cb, hvv, hlc, hcm, he⟩ := list_one hv
            simp only [List.cons.injEq, and_true] at hvv
            subst hvv
            simp -implicitDefEqProofs only [go_sem, ↓reduceIte, reduceEqDiff, Int.reduceLT, Nat.reduceLT, reduceToNat, reducePow, reduceAdd, reduceEq, reduceLeDiff, reduceLE, g1, g4, g5, g6, g7, i0, i1, hcx, hc, beq_self_eq_true]
            refine (reftexts_calls (by simp only [maxLen] at hcm; omega) he (fun k hk => by omega) o6 (by omega) (by unfold top; omega)).mono ?_
            rintro v8 w8 ⟨u8, r8, rfl, hok8, ho8, f8⟩
            simp -implicitDefEqProofs only [go_sem, ↓reduceIte, reduceEqDiff, Int.reduceLT, Nat.reduceLT, reduceToNat, reducePow, reduceAdd, reduceEq, reduceLeDiff, reduceLE, g1, g4, g5, g7, en]
            refine done r8 u8 hok8 ho8 f8 ?_ ?_ ?_ ?_ ?_
            all_goals simp -implicitDefEqProofs only [go_sem, ↓reduceIte, reduceEqDiff, Int.reduceLT, Nat.reduceLT, reduceToNat, reducePow, reduceAdd, reduceEq, reduceLeDiff, reduceLE, g1, g4, g5, g7]
          · have hcx : w6.cell? (ad.add i) = some (.string ⟨#[105, 116, 101, 109, 115]⟩) := hname
            obtain ⟨v, hc, hfz, hv⟩ := hM6.cell lnItems rfl
            obtain ⟨B, cb, hvv, hlc, hcm, he⟩ := list_one hv
            simp only [List.cons.injEq, and_true] at hvv
            subst hvv
            simp -implicitDefEqProofs only [go_sem, ↓reduceIte, reduceEqDiff, Int.reduceLT, Nat.reduceLT, reduceToNat, reducePow, reduceAdd, reduceEq, reduceLeDiff, reduceLE, g1, g4, g5, g6, g7, i0, i1, hcx, hc, beq_self_eq_true]
            refine (refitems_calls (by simp only [maxLen] at hcm; omega) he (fun k hk => by omega) o6 (by omega) (by unfold top; omega)).mono ?_
            rintro v8 w8 ⟨u8, r8, rfl, hok8, ho8, f8⟩
            simp -implicitDefEqProofs only [go_sem, ↓reduceIte, reduceEqDiff, Int.reduceLT, Nat.reduceLT, reduceToNat, reducePow, reduceAdd, reduceEq, reduceLeDiff, reduceLE, g1, g4, g5, g7, en]
            refine done r8 u8 hok8 ho8 f8 ?_ ?_ ?_ ?_ ?_
            all_goals simp -implicitDefEqProofs only [go_sem, ↓reduceIte, reduceEqDiff, Int.reduceLT, Nat.reduceLT, reduceToNat, reducePow, reduceAdd, reduceEq, reduceLeDiff, reduceLE, g1, g4, g5, g7]
          · have hcx : w6.cell? (ad.add i) = some (.string ⟨#[104, 105, 116, 115]⟩) := hname
            obtain ⟨v, hc, hfz, hv⟩ := hM6.cell lnHits rfl
            obtain ⟨B, cb, hvv, hlc, hcm, he⟩ := list_one hv
            simp only [List.cons.injEq, and_true] at hvv
            subst hvv
            simp -implicitDefEqProofs only [go_sem, ↓reduceIte, reduceEqDiff, Int.reduceLT, Nat.reduceLT, reduceToNat, reducePow, reduceAdd, reduceEq, reduceLeDiff, reduceLE, g1, g4, g5, g6, g7, i0, i1, hcx, hc, beq_self_eq_true]
            refine (refhits_calls (by simp only [maxLen] at hcm; omega) he (fun k hk => by omega) o6 (by omega) (by unfold top; omega)).mono ?_
            rintro v8 w8 ⟨u8, r8, rfl, hok8, ho8, f8⟩
            simp -implicitDefEqProofs only [go_sem, ↓reduceIte, reduceEqDiff, Int.reduceLT, Nat.reduceLT, reduceToNat, reducePow, reduceAdd, reduceEq, reduceLeDiff, reduceLE, g1, g4, g5, g7, en]
            refine done r8 u8 hok8 ho8 f8 ?_ ?_ ?_ ?_ ?_
            all_goals simp -implicitDefEqProofs only [go_sem, ↓reduceIte, reduceEqDiff, Int.reduceLT, Nat.reduceLT, reduceToNat, reducePow, reduceAdd, reduceEq, reduceLeDiff, reduceLE, g1, g4, g5, g7]
      · have i1 : ¬ (i : Int) < (l.size : Int) := by omega
        have htk : (nums l).take i = nums l := List.take_of_length_le (by rw [nums_len]; omega)
        cases r with
        | false =>
          simp -implicitDefEqProofs only [go_sem, ↓reduceIte, reduceEqDiff, Int.reduceLT, Nat.reduceLT, reduceToNat, reducePow, reduceAdd, reduceEq, reduceLeDiff, reduceLE, g1, g4, g5, g6, g7, i1]
          exact ⟨.inl ⟨bad fun h => (by cases hok.2 h), (by first | rfl | trivial)⟩, kk6⟩
        | true =>
          obtain ⟨_, ob⟩ := hbytes rfl
          rw [htk] at hok ob
          simp -implicitDefEqProofs only [go_sem, ↓reduceIte, reduceEqDiff, Int.reduceLT, Nat.reduceLT, reduceToNat, reducePow, reduceAdd, reduceEq, reduceLeDiff, reduceLE, g1, g4, g5, g6, g7, i1]
          exact ⟨.inr ⟨(putOk_iff hRm hf).2 ⟨hxo, hok.1 rfl⟩, bv, l, hf, rfl, ob.lower (by omega)⟩, kk6⟩
end Go.Proofs.YtnlibeaainbipaaGreat.F
