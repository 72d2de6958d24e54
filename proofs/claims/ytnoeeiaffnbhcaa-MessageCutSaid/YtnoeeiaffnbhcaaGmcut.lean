/- The law that what is cut off a message's bytes, or put behind it, is refused. Conditions: those of its row. -/
import Derived.Test.YtnoeeiaffnbhcaaGmlive
import Derived.Test.YtnoeeiaffnbhcaaGmgreat
import Derived.Test.YtnoeeiaffnbhcaaGputeq
import Derived.Test.YtnoeeiaffnbhcaaMfnt
namespace Go.Proofs.Ytnoeeiaffnbhcaa.M
open Go.RowKit
variable {P : Program}
theorem frs_cut {K T : Fr → World → Prop} {l : List (Nat × MI)} {t : DT} {f : Fr} {w : World} (h : ∀ f w, T f w → K f w) (hh : ∀ K' : Fr → World → Prop, (∀ f w, T f w → K' f w) → frS P K' l t f w) : frS P K l t f w := hh K h
theorem frs_gen {K : Fr → World → Prop} {l : List (Nat × MI)} {t : DT} {F : Fr} {w : World} (T : Fr → Prop) (h : T F) (hh : ∀ f, T f → frS P K l t f w) : frS P K l t F w := hh F h
end Go.Proofs.Ytnoeeiaffnbhcaa.M
namespace Go.Proofs.Ytnoeeiaffnbhcaa.F
open Go.RowKit Go.Proofs.Ytnoeeiaffnbhcaa.M Go.Proofs.Ytnoeeiaffnbhcaa.V
set_option linter.unusedSimpArgs false
set_option linter.unusedVariables false
set_option maxRecDepth 20000
theorem get_stay : ∀ (l : List Int) (m : Msg) (s : RS), (∀ f ∈ l, f ∈ letters) → s.why ≠ 0 → (getFold l (m, s)).2 = s
  | [], m, s, _, _ => rfl
  | f :: l, m, s, hl, hs => by
    show (getFold l (rfieldP f (m, s))).2 = s
    rw [rfield_fc (hl f (by simp)), (fc f).c.stay s hs]
    exact get_stay l _ s (fun g h => hl g (by simp [h])) hs
theorem enc_cut {x : Msg} : ∀ (l : List Int) (m : Msg) (j : Nat), (∀ f ∈ l, f ∈ letters) → OkAll l x → j < (encAll l x).length → (getFold l (m, ⟨(encAll l x).take j, 0⟩)).2.why = 40
  | [], m, j, _, _, hj => by simp [encAll] at hj
  | f :: l, m, j, hl, hok, hj => by
    have hf := hl f (by simp)
    have hl' : ∀ g ∈ l, g ∈ letters := fun g h => hl g (by simp [h])
    have e : encAll (f :: l) x = (fc f).c.wr ((fc f).get x) ++ encAll l x := by simp [encAll]
    rw [e, List.length_append] at hj
    show (getFold l (rfieldP f (m, ⟨(encAll (f :: l) x).take j, 0⟩))).2.why = 40
    rw [rfield_fc hf, e]
    by_cases h : j < ((fc f).c.wr ((fc f).get x)).length
    · rw [List.take_append_of_le_length (by omega)]
      have hc := (fc f).c.cut _ j (hok f (by simp)) h
      rw [get_stay l _ _ hl' (by rw [hc]; decide)]
      exact hc
    · have ht : ((fc f).c.wr ((fc f).get x) ++ encAll l x).take j = (fc f).c.wr ((fc f).get x) ++ (encAll l x).take (j - ((fc f).c.wr ((fc f).get x)).length) := by
        rw [List.take_append, List.take_of_length_le (by omega)]
      rw [ht, (fc f).c.back _ _ (hok f (by simp))]
      exact enc_cut l _ _ hl' (fun g h => hok g (by simp [h])) (by omega)
theorem getMsg_cut {x : Msg} (hR : RMsg x) (hp : PutOk x) {j : Nat} (hj : j < (putMsg x).2.b.length) : (getMsg x.kind ((putMsg x).2.b.take j)).2 = 40 := by
  cases hf : form x.kind with
  | none => have := hp.1; unfold putMsg at this; rw [hf] at this; cases this
  | some l =>
    rw [put_bytes hR hf hp] at hj ⊢
    have h := enc_cut (nums l) (zMsg x.kind) j (form_ok hf).2 ((putOk_iff hR hf).1 hp).2 hj
    unfold getMsg
    rw [hf]
    simp only
    generalize getFold (nums l) (zMsg x.kind, ⟨(encAll (nums l) x).take j, 0⟩) = p at *
    have hr : rend p.2 = p.2 := by
      unfold rend
      rw [if_neg (fun hh => by rw [h] at hh; exact absurd hh.2 (by decide))]
    rw [hr, h, if_neg (by decide)]
theorem getMsg_more {x : Msg} (hR : RMsg x) (hp : PutOk x) (more : List Int) : (getMsg x.kind ((putMsg x).2.b ++ more)).2 = if more = [] then 0 else 60 := by
  cases hf : form x.kind with
  | none => have := hp.1; unfold putMsg at this; rw [hf] at this; cases this
  | some l =>
    rw [put_bytes hR hf hp]
    unfold getMsg
    rw [hf]
    simp only
    rw [get_all (nums l) (zMsg x.kind) more (form_ok hf).2 ((putOk_iff hR hf).1 hp).2]
    by_cases hm : more = []
    · subst hm; rfl
    · rw [if_neg hm]
      have hr : rend ⟨more, 0⟩ = ⟨more, 60⟩ := by unfold rend; rw [if_pos ⟨hm, rfl⟩]
      simp only [hr]
      rw [if_neg (by decide)]
theorem cwr_len {α : Type} {c : Codec α} {R : α → Prop} {one : α → WS → WS} {B : Nat} (W : Wr c R one B) {x : α} (hR : R x) (hok : c.ok x) : (c.wr x).length ≤ B := by
  have hb := (W.bad x ⟨[], false⟩ hR).2 ⟨rfl, hok⟩
  have h1 := W.len x ⟨[], false⟩ hR
  rw [W.b x ⟨[], false⟩ hR hb] at h1
  simpa using h1
theorem enc_len {x : Msg} (hR : RMsg x) : ∀ l : List Int, (∀ f ∈ l, f ∈ letters) → OkAll l x → (encAll l x).length ≤ l.length * 67441674
  | [], _, _ => by simp [encAll]
  | f :: l, hl, hok => by
    have hf := hl f (by simp)
    have e : encAll (f :: l) x = (fc f).c.wr ((fc f).get x) ++ encAll l x := by simp [encAll]
    have h1 := cwr_len (fc f).W (hR f hf) (hok f (by simp))
    have h2 := enc_len hR l (fun g h => hl g (by simp [h])) (fun g h => hok g (by simp [h]))
    have hB : (fc f).B ≤ 67441674 := by
      rcases letters_cases hf with rfl|rfl|rfl|rfl|rfl|rfl|rfl|rfl|rfl|rfl|rfl|rfl|rfl|rfl|rfl|rfl|rfl|rfl|rfl|rfl <;> exact of_decide_eq_true rfl
    rw [e, List.length_append, List.length_cons]
    omega
theorem cput_len {x : Msg} (hR : RMsg x) (h : PutOk x) : (putMsg x).2.b.length ≤ 1000000000 := by
  cases hf : form x.kind with
  | none => have := h.1; unfold putMsg at this; rw [hf] at this; cases this
  | some l =>
    rw [put_bytes hR hf h]
    have h1 := enc_len hR (nums l) (form_ok hf).2 ((putOk_iff hR hf).1 h).2
    have h2 := (form_ok hf).1
    rw [nums_len] at h1
    omega
theorem cput_bs {x : Msg} (hR : RMsg x) (h : PutOk x) : Bs (putMsg x).2.b := by
  cases hf : form x.kind with
  | none => have := h.1; unfold putMsg at this; rw [hf] at this; cases this
  | some l =>
    rw [put_bytes hR hf h]
    intro b hb
    obtain ⟨f, hf2, hb⟩ := List.mem_flatMap.1 hb
    exact (fc f).c.bs _ (((putOk_iff hR hf).1 h).2 f hf2) b hb
theorem store_cells {w : World} {cs : List Value} (hcl : cs.length = 28) (h1 : allOne cs = true) : ∃ w2, stV Try.prog (w.alloc (.cells #[.int .u8 0, .int .u32 0, .int .u32 0, .int .u64 0, .int .u8 0, .int .u32 0, .string ⟨#[]⟩, .string ⟨#[]⟩, .int .u8 0, .int .u8 0, .bool false, .int .u8 0, .int .u16 0, .slice none 0 0, .int .u32 0, .slice none 0 0, .int .u16 0, .int .u16 0, .slice none 0 0, .slice none 0 0, .slice none 0 0, .int .u32 0, .int .u32 0, .slice none 0 0, .int .u64 0, .slice none 0 0, .slice none 0 0, .slice none 0 0] 37)) 37 (.pointer (some (At w.heap.size 0))) (.agg (List.toArray cs)) = some w2 ∧
    Blk w2 w.heap.size 37 cs.toArray ∧ Keep w w2 ∧ w2.heap.size = w.heap.size + 1 := by
  have hb : Blk _ _ _ _ := Blk.new w 37 #[.int .u8 0, .int .u32 0, .int .u32 0, .int .u64 0, .int .u8 0, .int .u32 0, .string ⟨#[]⟩, .string ⟨#[]⟩, .int .u8 0, .int .u8 0, .bool false, .int .u8 0, .int .u16 0, .slice none 0 0, .int .u32 0, .slice none 0 0, .int .u16 0, .int .u16 0, .slice none 0 0, .slice none 0 0, .slice none 0 0, .int .u32 0, .int .u32 0, .slice none 0 0, .int .u64 0, .slice none 0 0, .slice none 0 0, .slice none 0 0]
  have S0 := stB (P := Try.prog) (o := 0) sz37 hb (by decide) cs hcl h1
  have hb2 := hb.put 0 cs
  rw [putC_all (by simp [hcl])] at hb2
  exact ⟨_, S0, hb2, (Fx.alloc (fun _ => False) w _).new (Fx.put (m := only w.heap.size) _ _ _ _ rfl) (fun k e hk => by have : k = w.heap.size := e; omega), by rw [size_put, size_alloc]⟩
theorem store_cells2 {w : World} {xb : Nat} {cs : List Value} (hb : Blk w xb 37 #[.int .u8 0, .int .u32 0, .int .u32 0, .int .u64 0, .int .u8 0, .int .u32 0, .string ⟨#[]⟩, .string ⟨#[]⟩, .int .u8 0, .int .u8 0, .bool false, .int .u8 0, .int .u16 0, .slice none 0 0, .int .u32 0, .slice none 0 0, .int .u16 0, .int .u16 0, .slice none 0 0, .slice none 0 0, .slice none 0 0, .int .u32 0, .int .u32 0, .slice none 0 0, .int .u64 0, .slice none 0 0, .slice none 0 0, .slice none 0 0]) (hcl : cs.length = 28) (h1 : allOne cs = true) : ∃ w2, stV Try.prog w 37 (.pointer (some (At xb 0))) (.agg (List.toArray cs)) = some w2 ∧
    Blk w2 xb 37 cs.toArray ∧ Fx (only xb) w w2 := by
  have S0 := stB (P := Try.prog) (o := 0) sz37 hb (by decide) cs hcl h1
  have hb2 := hb.put 0 cs
  rw [putC_all (by simp [hcl])] at hb2
  exact ⟨_, S0, hb2, Fx.put _ _ _ _ rfl⟩
set_option maxHeartbeats 3200000 in
theorem cut_walk {w : World} {x : Msg} {cs : List Value} {cut : Int} {A2 : Option Addr} {c2 : Nat} {more : List Int} (hx : kMsg.rep (fun k => k < w.heap.size) w x cs) (hl2 : more.length ≤ c2) (hc2 : c2 ≤ maxLen) (he2 : Elems (Kind.int .u8) (fun k => k < w.heap.size) w A2 more) :
    callK Try.prog 5 #[.agg cs.toArray, .int .i64 cut, .slice A2 more.length c2] w fun v w' => v = .bool true ∧ Keep w w' := by
  refine callK_of Try.func5 c5 r5 (by exact Nat.le_of_ble_eq_true rfl) ?_
  rw [m5]
  simp -implicitDefEqProofs only [go_sem, ↓reduceIte, Nat.reduceEqDiff, Int.reduceLT, Nat.reduceLT, Int.reduceToNat, Int.reducePow, Nat.reduceAdd, Int.reduceEq, Nat.reduceLeDiff, Int.reduceLE]
  have hM1 : MsgAt 37 (fun k => k < w.heap.size) (w.alloc (.cells cs.toArray 37)) w.heap.size x := ⟨cs, Blk.new w _ _, kMsg.keep hx (Fx.alloc _ _ _)⟩
  have kA : Keep w (w.alloc (.cells cs.toArray 37)) := Fx.alloc _ w _
  generalize w.alloc (.cells cs.toArray 37) = w1 at *
  obtain ⟨b0, hb0⟩ : ∃ b0, b0 = w.heap.size := ⟨_, rfl⟩
  rw [← hb0] at hM1 ⊢
  refine (alive_calls w1).mono ?_
  rintro v w2 ⟨rfl, k2⟩
  have hM2 := hM1.keep k2
  have kk2 := kA.tr k2
  obtain ⟨cs2, ld2, hr2⟩ := msg_load hM2
  simp -implicitDefEqProofs only [go_sem, ↓reduceIte, Nat.reduceEqDiff, Int.reduceLT, Nat.reduceLT, Int.reduceToNat, Int.reducePow, Nat.reduceAdd, Int.reduceEq, Nat.reduceLeDiff, Int.reduceLE, ld2]
  refine (greatMsg_calls hr2).mono ?_
  rintro v w3 ⟨⟨q, rfl⟩, k3⟩
  have hM3 := hM2.keep k3
  have kk3 := kk2.tr k3
  have s3 := kk3.size
  cases q with
  | true =>
    simp -implicitDefEqProofs only [go_sem, ↓reduceIte, Nat.reduceEqDiff, Int.reduceLT, Nat.reduceLT, Int.reduceToNat, Int.reducePow, Nat.reduceAdd, Int.reduceEq, Nat.reduceLeDiff, Int.reduceLE]
    exact ⟨trivial, kk3⟩
  | false =>
  by_cases hbig : (1000 : Int) < (more.length : Int)
  · simp -implicitDefEqProofs only [go_sem, ↓reduceIte, Nat.reduceEqDiff, Int.reduceLT, Nat.reduceLT, Int.reduceToNat, Int.reducePow, Nat.reduceAdd, Int.reduceEq, Nat.reduceLeDiff, Int.reduceLE, hbig]
    exact ⟨trivial, kk3⟩
  obtain ⟨cs3, ld3, hr3⟩ := msg_load hM3
  simp -implicitDefEqProofs only [go_sem, ↓reduceIte, Nat.reduceEqDiff, Int.reduceLT, Nat.reduceLT, Int.reduceToNat, Int.reducePow, Nat.reduceAdd, Int.reduceEq, Nat.reduceLeDiff, Int.reduceLE, hbig, ld3]
  refine (put_msg_calls (kMsg.mono hr3 fun k hk _ => hk)).mono ?_
  rintro v w4 ⟨hv, k4⟩
  have hM4 := hM3.keep k4
  have kk4 := kk3.tr k4
  rcases hv with ⟨hno, rfl⟩ | ⟨hok, v1, rfl, ho⟩
  · have zN : (((0 : Nat) : Int) == 0) = true := rfl
    simp -implicitDefEqProofs only [go_sem, ↓reduceIte, Nat.reduceEqDiff, Int.reduceLT, Nat.reduceLT, Int.reduceToNat, Int.reducePow, Nat.reduceAdd, Int.reduceEq, Nat.reduceLeDiff, Int.reduceLE, zN]
    exact ⟨trivial, kk4⟩
  obtain ⟨cs4, ld4, hr4⟩ := msg_load hM4
  have hRm := rmsg_of hr4
  have hbs := cput_bs hRm hok
  have hlen := cput_len hRm hok
  have hcut := fun j hj => getMsg_cut hRm hok (j := j) hj
  have hmore := getMsg_more hRm hok more
  generalize (putMsg x).2.b = bs at *
  obtain ⟨A, c, rfl, hc, hr⟩ := ho.slice
  obtain ⟨hcm, he⟩ := elems_own ho hbs
  obtain ⟨v, hck, _, hv, hwf⟩ := hM4.cell lnKind rfl
  simp only [List.cons.injEq, and_true] at hv
  subst hv
  obtain ⟨n0, n1⟩ := wf_u8' hwf
  have hm4 : RdI w4 .u8 A2 more := (he2.keep kk4).rd
  have hbm : Bs (bs ++ more) := hbs.append he2.bs
  simp only [maxLen] at hcm
  -- the end: what stands behind
  have last : ∀ {w5 : World} {f : Fr}, Keep w4 w5 → f 2 = .slice A2 more.length c2 → f 3 = .pointer (some (At b0 0)) → f 7 = .slice A bs.length c → True := fun _ _ _ _ => trivial
  by_cases hin : 0 ≤ cut ∧ cut < (bs.length : Int)
  · obtain ⟨h0, h1⟩ := hin
    obtain ⟨j, rfl⟩ := Int.eq_ofNat_of_zero_le h0
    have h2 : (j : Int) ≤ (c : Int) := by omega
    have hje := hcut j (by omega)
    have hlj : (bs.take j).length = j := by rw [List.length_take]; omega
    simp -implicitDefEqProofs only [go_sem, ↓reduceIte, Nat.reduceEqDiff, Int.reduceLT, Nat.reduceLT, Int.reduceToNat, Int.reducePow, Nat.reduceAdd, Int.reduceEq, Nat.reduceLeDiff, Int.reduceLE, h0, h1]
    refine frs_cut (T := fun f w' => f 2 = .slice A2 more.length c2 ∧ f 3 = .pointer (some (At b0 0)) ∧ f 7 = .slice A bs.length c ∧ f 10 = .int .i64 40 ∧ Keep w4 w') ?_ ?_
    · rintro f w5 ⟨g2, g3, g7, g10, k5⟩
      have y40 : ((40 : Int) != 40) = false := rfl
      simp -implicitDefEqProofs only [go_sem, ↓reduceIte, Nat.reduceEqDiff, Int.reduceLT, Nat.reduceLT, Int.reduceToNat, Int.reducePow, Nat.reduceAdd, Int.reduceEq, Nat.reduceLeDiff, Int.reduceLE, g10, y40]
      refine frs_gen (fun f => f 2 = .slice A2 more.length c2 ∧ f 3 = .pointer (some (At b0 0)) ∧ f 7 = .slice A bs.length c) ⟨by simp -implicitDefEqProofs only [go_sem, ↓reduceIte, Nat.reduceEqDiff, Int.reduceLT, Nat.reduceLT, Int.reduceToNat, Int.reducePow, Nat.reduceAdd, Int.reduceEq, Nat.reduceLeDiff, Int.reduceLE, g2], by simp -implicitDefEqProofs only [go_sem, ↓reduceIte, Nat.reduceEqDiff, Int.reduceLT, Nat.reduceLT, Int.reduceToNat, Int.reducePow, Nat.reduceAdd, Int.reduceEq, Nat.reduceLeDiff, Int.reduceLE, g3], by simp -implicitDefEqProofs only [go_sem, ↓reduceIte, Nat.reduceEqDiff, Int.reduceLT, Nat.reduceLT, Int.reduceToNat, Int.reducePow, Nat.reduceAdd, Int.reduceEq, Nat.reduceLeDiff, Int.reduceLE, g7]⟩ ?_
      rintro f ⟨g2, g3, g7⟩
      have hm5 := hm4.fx k5 (fun _ _ h => h)
      have hr := hr.fx k5 (fun _ _ h => h)
      have hM5 := hM4.keep k5
      have kk5 := kk4.tr k5
      refine frs_cut (T := fun f w' => f 2 = .slice A2 more.length c2 ∧ f 12 = .int .i64 (if more = [] then 0 else 60) ∧ Keep w5 w') ?_ ?_
      · rintro f w6 ⟨g2, g12, k6⟩
        by_cases hm : more = []
        · rw [if_pos hm] at g12
          have hml : more.length = 0 := by rw [hm]; rfl
          have y1 : ((0 : Int) == 60) = false := rfl
          have y2 : ¬ (0 : Int) < (more.length : Int) := by omega
          have y3 : (false == false) = true := rfl
          simp -implicitDefEqProofs only [go_sem, ↓reduceIte, Nat.reduceEqDiff, Int.reduceLT, Nat.reduceLT, Int.reduceToNat, Int.reducePow, Nat.reduceAdd, Int.reduceEq, Nat.reduceLeDiff, Int.reduceLE, g2, g12, y1, y2, y3]
          exact ⟨by first | rfl | trivial, kk5.tr k6⟩
        · rw [if_neg hm] at g12
          have hml : 0 < more.length := List.length_pos_iff.2 hm
          have y1 : ((60 : Int) == 60) = true := rfl
          have y2 : (0 : Int) < (more.length : Int) := by omega
          have y3 : (true == true) = true := rfl
          simp -implicitDefEqProofs only [go_sem, ↓reduceIte, Nat.reduceEqDiff, Int.reduceLT, Nat.reduceLT, Int.reduceToNat, Int.reducePow, Nat.reduceAdd, Int.reduceEq, Nat.reduceLeDiff, Int.reduceLE, g2, g12, y1, y2, y3]
          exact ⟨by first | rfl | trivial, kk5.tr k6⟩
      · intro K' hK'
        have ldk : ∀ w', Keep w5 w' → w'.cell? (At b0 0) = some (.int .u8 x.kind) := fun w' k' => (cell_fx hM5 k' (fun h => h) 0).trans ((cell_fx hM4 k5 (fun h => h) 0).trans hck)
        refine frs_intro (fun wz => Keep w5 wz) (Fx.drew _ _) ?_
        simp -implicitDefEqProofs only [go_sem, ↓reduceIte, Nat.reduceEqDiff, Int.reduceLT, Nat.reduceLT, Int.reduceToNat, Int.reducePow, Nat.reduceAdd, Int.reduceEq, Nat.reduceLeDiff, Int.reduceLE, g2, g3, g7]
        refine hld_intro (.int .u8 x.kind) (Fx.drew _ _) (fun w' k' => by have := ldk w' k'; simp -implicitDefEqProofs only [go_sem, ↓reduceIte, Nat.reduceEqDiff, Int.reduceLT, Nat.reduceLT, Int.reduceToNat, Int.reducePow, Nat.reduceAdd, Int.reduceEq, Nat.reduceLeDiff, Int.reduceLE, this]; exact ⟨trivial, trivial⟩) ?_
        have kd : Keep w5 w5.drew := Fx.drew _ _
        simp -implicitDefEqProofs only [go_sem, ↓reduceIte, Nat.reduceEqDiff, Int.reduceLT, Nat.reduceLT, Int.reduceToNat, Int.reducePow, Nat.reduceAdd, Int.reduceEq, Nat.reduceLeDiff, Int.reduceLE]
        generalize w5.drew = wd at *
        refine frk_intro ?_ ?_
        · simp -implicitDefEqProofs only [go_sem, ↓reduceIte, Nat.reduceEqDiff, Int.reduceLT, Nat.reduceLT, Int.reduceToNat, Int.reducePow, Nat.reduceAdd, Int.reduceEq, Nat.reduceLeDiff, Int.reduceLE]
          have s1 := kd.size
          refine bsl_none et33 ?_
          have k1 : Keep w5 (wd.alloc (.cells #[] 5)) := kd.tr (Fx.alloc _ _ _)
          have o1 : OwnI 5 .u8 w5.heap.size _ _ _ := OwnI.new wd 5 .u8 [] s1 (by simp)
          simp only [List.map_nil, List.length_nil] at o1
          generalize wd.alloc (.cells #[] 5) = u1 at *
          simp -implicitDefEqProofs only [go_sem, ↓reduceIte, Nat.reduceEqDiff, Int.reduceLT, Nat.reduceLT, Int.reduceToNat, Int.reducePow, Nat.reduceAdd, Int.reduceEq, Nat.reduceLeDiff, Int.reduceLE]
          refine shs_intro k1 ?_
          simp -implicitDefEqProofs only [go_sem, ↓reduceIte, Nat.reduceEqDiff, Int.reduceLT, Nat.reduceLT, Int.reduceToNat, Int.reducePow, Nat.reduceAdd, Int.reduceEq, Nat.reduceLeDiff, Int.reduceLE]
          refine frk_intro ?_ ?_
          · simp -implicitDefEqProofs only [go_sem, ↓reduceIte, Nat.reduceEqDiff, Int.reduceLT, Nat.reduceLT, Int.reduceToNat, Int.reducePow, Nat.reduceAdd, Int.reduceEq, Nat.reduceLeDiff, Int.reduceLE]
            have s2 := k1.size
            refine append_own ie8 (by decide) o1 (hr.fx k1 (fun _ _ h => h)) (by rw [List.length_nil]; omega) s2 ?_
            intro v2 u2 o2 f2 _
            rw [List.nil_append] at o2
            have k2 := k1.new f2 (fun k e hk => by have := (o1.lt e).1; omega)
            simp -implicitDefEqProofs only [go_sem, ↓reduceIte, Nat.reduceEqDiff, Int.reduceLT, Nat.reduceLT, Int.reduceToNat, Int.reducePow, Nat.reduceAdd, Int.reduceEq, Nat.reduceLeDiff, Int.reduceLE]
            refine shs_intro k2 ?_
            simp -implicitDefEqProofs only [go_sem, ↓reduceIte, Nat.reduceEqDiff, Int.reduceLT, Nat.reduceLT, Int.reduceToNat, Int.reducePow, Nat.reduceAdd, Int.reduceEq, Nat.reduceLeDiff, Int.reduceLE]
            refine frk_intro ?_ ?_
            · simp -implicitDefEqProofs only [go_sem, ↓reduceIte, Nat.reduceEqDiff, Int.reduceLT, Nat.reduceLT, Int.reduceToNat, Int.reducePow, Nat.reduceAdd, Int.reduceEq, Nat.reduceLeDiff, Int.reduceLE]
              have s3 := k2.size
              refine append_own ie8 (by decide) o2 (hm5.fx k2 (fun _ _ h => h)) (by omega) s3 ?_
              intro v3 u3 o3 f3 _
              have k3 := k2.new f3 (fun k e hk => by have := (o2.lt e).1; omega)
              simp -implicitDefEqProofs only [go_sem, ↓reduceIte, Nat.reduceEqDiff, Int.reduceLT, Nat.reduceLT, Int.reduceToNat, Int.reducePow, Nat.reduceAdd, Int.reduceEq, Nat.reduceLeDiff, Int.reduceLE]
              refine shs_intro k3 ?_
              simp -implicitDefEqProofs only [go_sem, ↓reduceIte, Nat.reduceEqDiff, Int.reduceLT, Nat.reduceLT, Int.reduceToNat, Int.reducePow, Nat.reduceAdd, Int.reduceEq, Nat.reduceLeDiff, Int.reduceLE]
              refine frk_intro ?_ ?_
              · simp -implicitDefEqProofs only [go_sem, ↓reduceIte, Nat.reduceEqDiff, Int.reduceLT, Nat.reduceLT, Int.reduceToNat, Int.reducePow, Nat.reduceAdd, Int.reduceEq, Nat.reduceLeDiff, Int.reduceLE]
                have s4 := k3.size
                obtain ⟨A4, c4, rfl, hc4, hr4⟩ := o3.slice
                obtain ⟨hcm4, he4⟩ := elems_own o3 hbm
                refine (get_msg_calls n0 n1 hc4 hcm4 (he4.mono Nat.zero_lt_one fun k hk _ => hk)).mono ?_
                rw [hmore]
                rintro v u4 ⟨cs4, rfl, hz4, q4⟩
                have k4 := k3.tr q4
                simp -implicitDefEqProofs only [go_sem, ↓reduceIte, Nat.reduceEqDiff, Int.reduceLT, Nat.reduceLT, Int.reduceToNat, Int.reducePow, Nat.reduceAdd, Int.reduceEq, Nat.reduceLeDiff, Int.reduceLE]
                refine shs_intro k4 ?_
                simp -implicitDefEqProofs only [go_sem, ↓reduceIte, Nat.reduceEqDiff, Int.reduceLT, Nat.reduceLT, Int.reduceToNat, Int.reducePow, Nat.reduceAdd, Int.reduceEq, Nat.reduceLeDiff, Int.reduceLE]
                refine goE_intro (k4.tr (Fx.alloc _ _ _)) ?_
                obtain ⟨y5, S5, hx5, q5, _⟩ := store_cells (w := u4) (kMsg.len hz4) (allOne_of (kMsg.one hz4))
                simp -implicitDefEqProofs only [go_sem, ↓reduceIte, Nat.reduceEqDiff, Int.reduceLT, Nat.reduceLT, Int.reduceToNat, Int.reducePow, Nat.reduceAdd, Int.reduceEq, Nat.reduceLeDiff, Int.reduceLE, S5]
                exact hK' _ _ ⟨by simp -implicitDefEqProofs only [go_sem, ↓reduceIte, Nat.reduceEqDiff, Int.reduceLT, Nat.reduceLT, Int.reduceToNat, Int.reducePow, Nat.reduceAdd, Int.reduceEq, Nat.reduceLeDiff, Int.reduceLE, g2], by simp -implicitDefEqProofs only [go_sem, ↓reduceIte, Nat.reduceEqDiff, Int.reduceLT, Nat.reduceLT, Int.reduceToNat, Int.reducePow, Nat.reduceAdd, Int.reduceEq, Nat.reduceLeDiff, Int.reduceLE], k4.tr q5⟩
              · simp -implicitDefEqProofs only [go_sem, ↓reduceIte, Nat.reduceEqDiff, Int.reduceLT, Nat.reduceLT, Int.reduceToNat, Int.reducePow, Nat.reduceAdd, Int.reduceEq, Nat.reduceLeDiff, Int.reduceLE]
                have s6 := k3.size
                have k6 : Keep w5 (u3.alloc (.cells #[.int .u8 0, .int .u32 0, .int .u32 0, .int .u64 0, .int .u8 0, .int .u32 0, .string ⟨#[]⟩, .string ⟨#[]⟩, .int .u8 0, .int .u8 0, .bool false, .int .u8 0, .int .u16 0, .slice none 0 0, .int .u32 0, .slice none 0 0, .int .u16 0, .int .u16 0, .slice none 0 0, .slice none 0 0, .slice none 0 0, .int .u32 0, .int .u32 0, .slice none 0 0, .int .u64 0, .slice none 0 0, .slice none 0 0, .slice none 0 0] 37)) := k3.tr (Fx.alloc _ _ _)
                have hb6 : Blk _ _ _ _ := Blk.new u3 37 #[.int .u8 0, .int .u32 0, .int .u32 0, .int .u64 0, .int .u8 0, .int .u32 0, .string ⟨#[]⟩, .string ⟨#[]⟩, .int .u8 0, .int .u8 0, .bool false, .int .u8 0, .int .u16 0, .slice none 0 0, .int .u32 0, .slice none 0 0, .int .u16 0, .int .u16 0, .slice none 0 0, .slice none 0 0, .slice none 0 0, .int .u32 0, .int .u32 0, .slice none 0 0, .int .u64 0, .slice none 0 0, .slice none 0 0, .slice none 0 0]
                obtain ⟨bxn, hbxn⟩ : ∃ b, b = u3.heap.size := ⟨_, rfl⟩
                rw [← hbxn] at hb6 ⊢
                have ox6 := o3.fx (Fx.alloc (fun _ => False) u3 (.cells #[.int .u8 0, .int .u32 0, .int .u32 0, .int .u64 0, .int .u8 0, .int .u32 0, .string ⟨#[]⟩, .string ⟨#[]⟩, .int .u8 0, .int .u8 0, .bool false, .int .u8 0, .int .u16 0, .slice none 0 0, .int .u32 0, .slice none 0 0, .int .u16 0, .int .u16 0, .slice none 0 0, .slice none 0 0, .slice none 0 0, .int .u32 0, .int .u32 0, .slice none 0 0, .int .u64 0, .slice none 0 0, .slice none 0 0, .slice none 0 0] 37)) (fun _ _ h => h)
                generalize u3.alloc (.cells #[.int .u8 0, .int .u32 0, .int .u32 0, .int .u64 0, .int .u8 0, .int .u32 0, .string ⟨#[]⟩, .string ⟨#[]⟩, .int .u8 0, .int .u8 0, .bool false, .int .u8 0, .int .u16 0, .slice none 0 0, .int .u32 0, .slice none 0 0, .int .u16 0, .int .u16 0, .slice none 0 0, .slice none 0 0, .slice none 0 0, .int .u32 0, .int .u32 0, .slice none 0 0, .int .u64 0, .slice none 0 0, .slice none 0 0, .slice none 0 0] 37) = u6 at *
                refine shs_intro k6 ?_
                simp -implicitDefEqProofs only [go_sem, ↓reduceIte, Nat.reduceEqDiff, Int.reduceLT, Nat.reduceLT, Int.reduceToNat, Int.reducePow, Nat.reduceAdd, Int.reduceEq, Nat.reduceLeDiff, Int.reduceLE]
                have s7 := k6.size
                obtain ⟨A7, c7, rfl, hc7, hr7⟩ := ox6.slice
                obtain ⟨hcm7, he7⟩ := elems_own ox6 hbm
                refine (get_msg_calls n0 n1 hc7 hcm7 (he7.mono Nat.zero_lt_one fun k hk _ => hk)).mono ?_
                rw [hmore]
                rintro v u7 ⟨cs7, rfl, hz7, q7⟩
                have k7 := k6.tr q7
                have hb7 := q7.blk hb6 (fun h => h)
                refine goE_intro k7 ?_
                simp -implicitDefEqProofs only [go_sem, ↓reduceIte, Nat.reduceEqDiff, Int.reduceLT, Nat.reduceLT, Int.reduceToNat, Int.reducePow, Nat.reduceAdd, Int.reduceEq, Nat.reduceLeDiff, Int.reduceLE]
                have s8 := k7.size
                obtain ⟨y8, S8, hx8, q8⟩ := store_cells2 hb7 (kMsg.len hz7) (allOne_of (kMsg.one hz7))
                simp -implicitDefEqProofs only [go_sem, ↓reduceIte, Nat.reduceEqDiff, Int.reduceLT, Nat.reduceLT, Int.reduceToNat, Int.reducePow, Nat.reduceAdd, Int.reduceEq, Nat.reduceLeDiff, Int.reduceLE, S8]
                exact hK' _ _ ⟨by simp -implicitDefEqProofs only [go_sem, ↓reduceIte, Nat.reduceEqDiff, Int.reduceLT, Nat.reduceLT, Int.reduceToNat, Int.reducePow, Nat.reduceAdd, Int.reduceEq, Nat.reduceLeDiff, Int.reduceLE, g2], by simp -implicitDefEqProofs only [go_sem, ↓reduceIte, Nat.reduceEqDiff, Int.reduceLT, Nat.reduceLT, Int.reduceToNat, Int.reducePow, Nat.reduceAdd, Int.reduceEq, Nat.reduceLeDiff, Int.reduceLE], k7.new q8 (fun k e hk => by have : k = bxn := e; omega)⟩
            · simp -implicitDefEqProofs only [go_sem, ↓reduceIte, Nat.reduceEqDiff, Int.reduceLT, Nat.reduceLT, Int.reduceToNat, Int.reducePow, Nat.reduceAdd, Int.reduceEq, Nat.reduceLeDiff, Int.reduceLE]
              have s9 := k2.size
              have k9 : Keep w5 (u2.alloc (.cells #[.int .u8 0, .int .u32 0, .int .u32 0, .int .u64 0, .int .u8 0, .int .u32 0, .string ⟨#[]⟩, .string ⟨#[]⟩, .int .u8 0, .int .u8 0, .bool false, .int .u8 0, .int .u16 0, .slice none 0 0, .int .u32 0, .slice none 0 0, .int .u16 0, .int .u16 0, .slice none 0 0, .slice none 0 0, .slice none 0 0, .int .u32 0, .int .u32 0, .slice none 0 0, .int .u64 0, .slice none 0 0, .slice none 0 0, .slice none 0 0] 37)) := k2.tr (Fx.alloc _ _ _)
              have hb9 : Blk _ _ _ _ := Blk.new u2 37 #[.int .u8 0, .int .u32 0, .int .u32 0, .int .u64 0, .int .u8 0, .int .u32 0, .string ⟨#[]⟩, .string ⟨#[]⟩, .int .u8 0, .int .u8 0, .bool false, .int .u8 0, .int .u16 0, .slice none 0 0, .int .u32 0, .slice none 0 0, .int .u16 0, .int .u16 0, .slice none 0 0, .slice none 0 0, .slice none 0 0, .int .u32 0, .int .u32 0, .slice none 0 0, .int .u64 0, .slice none 0 0, .slice none 0 0, .slice none 0 0]
              obtain ⟨bxn, hbxn⟩ : ∃ b, b = u2.heap.size := ⟨_, rfl⟩
              rw [← hbxn] at hb9 ⊢
              have ox9 := o2.fx (Fx.alloc (fun _ => False) u2 (.cells #[.int .u8 0, .int .u32 0, .int .u32 0, .int .u64 0, .int .u8 0, .int .u32 0, .string ⟨#[]⟩, .string ⟨#[]⟩, .int .u8 0, .int .u8 0, .bool false, .int .u8 0, .int .u16 0, .slice none 0 0, .int .u32 0, .slice none 0 0, .int .u16 0, .int .u16 0, .slice none 0 0, .slice none 0 0, .slice none 0 0, .int .u32 0, .int .u32 0, .slice none 0 0, .int .u64 0, .slice none 0 0, .slice none 0 0, .slice none 0 0] 37)) (fun _ _ h => h)
              generalize u2.alloc (.cells #[.int .u8 0, .int .u32 0, .int .u32 0, .int .u64 0, .int .u8 0, .int .u32 0, .string ⟨#[]⟩, .string ⟨#[]⟩, .int .u8 0, .int .u8 0, .bool false, .int .u8 0, .int .u16 0, .slice none 0 0, .int .u32 0, .slice none 0 0, .int .u16 0, .int .u16 0, .slice none 0 0, .slice none 0 0, .slice none 0 0, .int .u32 0, .int .u32 0, .slice none 0 0, .int .u64 0, .slice none 0 0, .slice none 0 0, .slice none 0 0] 37) = u9 at *
              refine shs_intro k9 ?_
              simp -implicitDefEqProofs only [go_sem, ↓reduceIte, Nat.reduceEqDiff, Int.reduceLT, Nat.reduceLT, Int.reduceToNat, Int.reducePow, Nat.reduceAdd, Int.reduceEq, Nat.reduceLeDiff, Int.reduceLE]
              have s10 := k9.size
              refine append_own ie8 (by decide) ox9 (hm5.fx k9 (fun _ _ h => h)) (by omega) s10 ?_
              intro v10 u10 o10 f10 _
              have k10 := k9.new f10 (fun k e hk => by have := (ox9.lt e).1; omega)
              have hb10 := f10.blk hb9 (fun e => ox9.ne hb9 (by decide) e.symm)
              refine goE_intro k10 ?_
              simp -implicitDefEqProofs only [go_sem, ↓reduceIte, Nat.reduceEqDiff, Int.reduceLT, Nat.reduceLT, Int.reduceToNat, Int.reducePow, Nat.reduceAdd, Int.reduceEq, Nat.reduceLeDiff, Int.reduceLE]
              have s11 := k10.size
              obtain ⟨A11, c11, rfl, hc11, hr11⟩ := o10.slice
              obtain ⟨hcm11, he11⟩ := elems_own o10 hbm
              refine (get_msg_calls n0 n1 hc11 hcm11 (he11.mono Nat.zero_lt_one fun k hk _ => hk)).mono ?_
              rw [hmore]
              rintro v u11 ⟨cs11, rfl, hz11, q11⟩
              have k11 := k10.tr q11
              have hb11 := q11.blk hb10 (fun h => h)
              refine goE_intro k11 ?_
              simp -implicitDefEqProofs only [go_sem, ↓reduceIte, Nat.reduceEqDiff, Int.reduceLT, Nat.reduceLT, Int.reduceToNat, Int.reducePow, Nat.reduceAdd, Int.reduceEq, Nat.reduceLeDiff, Int.reduceLE]
              have s12 := k11.size
              obtain ⟨y12, S12, hx12, q12⟩ := store_cells2 hb11 (kMsg.len hz11) (allOne_of (kMsg.one hz11))
              simp -implicitDefEqProofs only [go_sem, ↓reduceIte, Nat.reduceEqDiff, Int.reduceLT, Nat.reduceLT, Int.reduceToNat, Int.reducePow, Nat.reduceAdd, Int.reduceEq, Nat.reduceLeDiff, Int.reduceLE, S12]
              exact hK' _ _ ⟨by simp -implicitDefEqProofs only [go_sem, ↓reduceIte, Nat.reduceEqDiff, Int.reduceLT, Nat.reduceLT, Int.reduceToNat, Int.reducePow, Nat.reduceAdd, Int.reduceEq, Nat.reduceLeDiff, Int.reduceLE, g2], by simp -implicitDefEqProofs only [go_sem, ↓reduceIte, Nat.reduceEqDiff, Int.reduceLT, Nat.reduceLT, Int.reduceToNat, Int.reducePow, Nat.reduceAdd, Int.reduceEq, Nat.reduceLeDiff, Int.reduceLE], k11.new q12 (fun k e hk => by have : k = bxn := e; omega)⟩
          · simp -implicitDefEqProofs only [go_sem, ↓reduceIte, Nat.reduceEqDiff, Int.reduceLT, Nat.reduceLT, Int.reduceToNat, Int.reducePow, Nat.reduceAdd, Int.reduceEq, Nat.reduceLeDiff, Int.reduceLE]
            have s13 := k1.size
            have k13 : Keep w5 (u1.alloc (.cells #[.int .u8 0, .int .u32 0, .int .u32 0, .int .u64 0, .int .u8 0, .int .u32 0, .string ⟨#[]⟩, .string ⟨#[]⟩, .int .u8 0, .int .u8 0, .bool false, .int .u8 0, .int .u16 0, .slice none 0 0, .int .u32 0, .slice none 0 0, .int .u16 0, .int .u16 0, .slice none 0 0, .slice none 0 0, .slice none 0 0, .int .u32 0, .int .u32 0, .slice none 0 0, .int .u64 0, .slice none 0 0, .slice none 0 0, .slice none 0 0] 37)) := k1.tr (Fx.alloc _ _ _)
            have hb13 : Blk _ _ _ _ := Blk.new u1 37 #[.int .u8 0, .int .u32 0, .int .u32 0, .int .u64 0, .int .u8 0, .int .u32 0, .string ⟨#[]⟩, .string ⟨#[]⟩, .int .u8 0, .int .u8 0, .bool false, .int .u8 0, .int .u16 0, .slice none 0 0, .int .u32 0, .slice none 0 0, .int .u16 0, .int .u16 0, .slice none 0 0, .slice none 0 0, .slice none 0 0, .int .u32 0, .int .u32 0, .slice none 0 0, .int .u64 0, .slice none 0 0, .slice none 0 0, .slice none 0 0]
            obtain ⟨bxn, hbxn⟩ : ∃ b, b = u1.heap.size := ⟨_, rfl⟩
            rw [← hbxn] at hb13 ⊢
            have ox13 := o1.fx (Fx.alloc (fun _ => False) u1 (.cells #[.int .u8 0, .int .u32 0, .int .u32 0, .int .u64 0, .int .u8 0, .int .u32 0, .string ⟨#[]⟩, .string ⟨#[]⟩, .int .u8 0, .int .u8 0, .bool false, .int .u8 0, .int .u16 0, .slice none 0 0, .int .u32 0, .slice none 0 0, .int .u16 0, .int .u16 0, .slice none 0 0, .slice none 0 0, .slice none 0 0, .int .u32 0, .int .u32 0, .slice none 0 0, .int .u64 0, .slice none 0 0, .slice none 0 0, .slice none 0 0] 37)) (fun _ _ h => h)
            generalize u1.alloc (.cells #[.int .u8 0, .int .u32 0, .int .u32 0, .int .u64 0, .int .u8 0, .int .u32 0, .string ⟨#[]⟩, .string ⟨#[]⟩, .int .u8 0, .int .u8 0, .bool false, .int .u8 0, .int .u16 0, .slice none 0 0, .int .u32 0, .slice none 0 0, .int .u16 0, .int .u16 0, .slice none 0 0, .slice none 0 0, .slice none 0 0, .int .u32 0, .int .u32 0, .slice none 0 0, .int .u64 0, .slice none 0 0, .slice none 0 0, .slice none 0 0] 37) = u13 at *
            refine shs_intro k13 ?_
            simp -implicitDefEqProofs only [go_sem, ↓reduceIte, Nat.reduceEqDiff, Int.reduceLT, Nat.reduceLT, Int.reduceToNat, Int.reducePow, Nat.reduceAdd, Int.reduceEq, Nat.reduceLeDiff, Int.reduceLE]
            have s14 := k13.size
            refine append_own ie8 (by decide) ox13 (hr.fx k13 (fun _ _ h => h)) (by rw [List.length_nil]; omega) s14 ?_
            intro v14 u14 o14 f14 _
            rw [List.nil_append] at o14
            have k14 := k13.new f14 (fun k e hk => by have := (ox13.lt e).1; omega)
            have hb14 := f14.blk hb13 (fun e => ox13.ne hb13 (by decide) e.symm)
            refine goE_intro k14 ?_
            simp -implicitDefEqProofs only [go_sem, ↓reduceIte, Nat.reduceEqDiff, Int.reduceLT, Nat.reduceLT, Int.reduceToNat, Int.reducePow, Nat.reduceAdd, Int.reduceEq, Nat.reduceLeDiff, Int.reduceLE]
            have s15 := k14.size
            refine append_own ie8 (by decide) o14 (hm5.fx k14 (fun _ _ h => h)) (by omega) s15 ?_
            intro v15 u15 o15 f15 _
            have k15 := k14.new f15 (fun k e hk => by have := (o14.lt e).1; omega)
            have hb15 := f15.blk hb14 (fun e => o14.ne hb14 (by decide) e.symm)
            refine goE_intro k15 ?_
            simp -implicitDefEqProofs only [go_sem, ↓reduceIte, Nat.reduceEqDiff, Int.reduceLT, Nat.reduceLT, Int.reduceToNat, Int.reducePow, Nat.reduceAdd, Int.reduceEq, Nat.reduceLeDiff, Int.reduceLE]
            have s16 := k15.size
            obtain ⟨A16, c16, rfl, hc16, hr16⟩ := o15.slice
            obtain ⟨hcm16, he16⟩ := elems_own o15 hbm
            refine (get_msg_calls n0 n1 hc16 hcm16 (he16.mono Nat.zero_lt_one fun k hk _ => hk)).mono ?_
            rw [hmore]
            rintro v u16 ⟨cs16, rfl, hz16, q16⟩
            have k16 := k15.tr q16
            have hb16 := q16.blk hb15 (fun h => h)
            refine goE_intro k16 ?_
            simp -implicitDefEqProofs only [go_sem, ↓reduceIte, Nat.reduceEqDiff, Int.reduceLT, Nat.reduceLT, Int.reduceToNat, Int.reducePow, Nat.reduceAdd, Int.reduceEq, Nat.reduceLeDiff, Int.reduceLE]
            have s17 := k16.size
            obtain ⟨y17, S17, hx17, q17⟩ := store_cells2 hb16 (kMsg.len hz16) (allOne_of (kMsg.one hz16))
            simp -implicitDefEqProofs only [go_sem, ↓reduceIte, Nat.reduceEqDiff, Int.reduceLT, Nat.reduceLT, Int.reduceToNat, Int.reducePow, Nat.reduceAdd, Int.reduceEq, Nat.reduceLeDiff, Int.reduceLE, S17]
            exact hK' _ _ ⟨by simp -implicitDefEqProofs only [go_sem, ↓reduceIte, Nat.reduceEqDiff, Int.reduceLT, Nat.reduceLT, Int.reduceToNat, Int.reducePow, Nat.reduceAdd, Int.reduceEq, Nat.reduceLeDiff, Int.reduceLE, g2], by simp -implicitDefEqProofs only [go_sem, ↓reduceIte, Nat.reduceEqDiff, Int.reduceLT, Nat.reduceLT, Int.reduceToNat, Int.reducePow, Nat.reduceAdd, Int.reduceEq, Nat.reduceLeDiff, Int.reduceLE], k16.new q17 (fun k e hk => by have : k = bxn := e; omega)⟩
        · simp -implicitDefEqProofs only [go_sem, ↓reduceIte, Nat.reduceEqDiff, Int.reduceLT, Nat.reduceLT, Int.reduceToNat, Int.reducePow, Nat.reduceAdd, Int.reduceEq, Nat.reduceLeDiff, Int.reduceLE]
          have s18 := kd.size
          have k18 : Keep w5 (wd.alloc (.cells #[.int .u8 0, .int .u32 0, .int .u32 0, .int .u64 0, .int .u8 0, .int .u32 0, .string ⟨#[]⟩, .string ⟨#[]⟩, .int .u8 0, .int .u8 0, .bool false, .int .u8 0, .int .u16 0, .slice none 0 0, .int .u32 0, .slice none 0 0, .int .u16 0, .int .u16 0, .slice none 0 0, .slice none 0 0, .slice none 0 0, .int .u32 0, .int .u32 0, .slice none 0 0, .int .u64 0, .slice none 0 0, .slice none 0 0, .slice none 0 0] 37)) := kd.tr (Fx.alloc _ _ _)
          have hb18 : Blk _ _ _ _ := Blk.new wd 37 #[.int .u8 0, .int .u32 0, .int .u32 0, .int .u64 0, .int .u8 0, .int .u32 0, .string ⟨#[]⟩, .string ⟨#[]⟩, .int .u8 0, .int .u8 0, .bool false, .int .u8 0, .int .u16 0, .slice none 0 0, .int .u32 0, .slice none 0 0, .int .u16 0, .int .u16 0, .slice none 0 0, .slice none 0 0, .slice none 0 0, .int .u32 0, .int .u32 0, .slice none 0 0, .int .u64 0, .slice none 0 0, .slice none 0 0, .slice none 0 0]
          obtain ⟨bxn, hbxn⟩ : ∃ b, b = wd.heap.size := ⟨_, rfl⟩
          rw [← hbxn] at hb18 ⊢
          generalize wd.alloc (.cells #[.int .u8 0, .int .u32 0, .int .u32 0, .int .u64 0, .int .u8 0, .int .u32 0, .string ⟨#[]⟩, .string ⟨#[]⟩, .int .u8 0, .int .u8 0, .bool false, .int .u8 0, .int .u16 0, .slice none 0 0, .int .u32 0, .slice none 0 0, .int .u16 0, .int .u16 0, .slice none 0 0, .slice none 0 0, .slice none 0 0, .int .u32 0, .int .u32 0, .slice none 0 0, .int .u64 0, .slice none 0 0, .slice none 0 0, .slice none 0 0] 37) = u18 at *
          refine shs_intro k18 ?_
          simp -implicitDefEqProofs only [go_sem, ↓reduceIte, Nat.reduceEqDiff, Int.reduceLT, Nat.reduceLT, Int.reduceToNat, Int.reducePow, Nat.reduceAdd, Int.reduceEq, Nat.reduceLeDiff, Int.reduceLE]
          have s19 := k18.size
          refine bsl_none et33 ?_
          have k19 : Keep w5 (u18.alloc (.cells #[] 5)) := k18.tr (Fx.alloc _ _ _)
          have o19 : OwnI 5 .u8 w5.heap.size _ _ _ := OwnI.new u18 5 .u8 [] s19 (by simp)
          simp only [List.map_nil, List.length_nil] at o19
          have hb19 := (Fx.alloc (fun _ => False) u18 (.cells #[] 5)).blk hb18 (fun h => h)
          generalize u18.alloc (.cells #[] 5) = u19 at *
          refine goE_intro k19 ?_
          simp -implicitDefEqProofs only [go_sem, ↓reduceIte, Nat.reduceEqDiff, Int.reduceLT, Nat.reduceLT, Int.reduceToNat, Int.reducePow, Nat.reduceAdd, Int.reduceEq, Nat.reduceLeDiff, Int.reduceLE]
          have s20 := k19.size
          refine append_own ie8 (by decide) o19 (hr.fx k19 (fun _ _ h => h)) (by rw [List.length_nil]; omega) s20 ?_
          intro v20 u20 o20 f20 _
          rw [List.nil_append] at o20
          have k20 := k19.new f20 (fun k e hk => by have := (o19.lt e).1; omega)
          have hb20 := f20.blk hb19 (fun e => o19.ne hb19 (by decide) e.symm)
          refine goE_intro k20 ?_
          simp -implicitDefEqProofs only [go_sem, ↓reduceIte, Nat.reduceEqDiff, Int.reduceLT, Nat.reduceLT, Int.reduceToNat, Int.reducePow, Nat.reduceAdd, Int.reduceEq, Nat.reduceLeDiff, Int.reduceLE]
          have s21 := k20.size
          refine append_own ie8 (by decide) o20 (hm5.fx k20 (fun _ _ h => h)) (by omega) s21 ?_
          intro v21 u21 o21 f21 _
          have k21 := k20.new f21 (fun k e hk => by have := (o20.lt e).1; omega)
          have hb21 := f21.blk hb20 (fun e => o20.ne hb20 (by decide) e.symm)
          refine goE_intro k21 ?_
          simp -implicitDefEqProofs only [go_sem, ↓reduceIte, Nat.reduceEqDiff, Int.reduceLT, Nat.reduceLT, Int.reduceToNat, Int.reducePow, Nat.reduceAdd, Int.reduceEq, Nat.reduceLeDiff, Int.reduceLE]
          have s22 := k21.size
          obtain ⟨A22, c22, rfl, hc22, hr22⟩ := o21.slice
          obtain ⟨hcm22, he22⟩ := elems_own o21 hbm
          refine (get_msg_calls n0 n1 hc22 hcm22 (he22.mono Nat.zero_lt_one fun k hk _ => hk)).mono ?_
          rw [hmore]
          rintro v u22 ⟨cs22, rfl, hz22, q22⟩
          have k22 := k21.tr q22
          have hb22 := q22.blk hb21 (fun h => h)
          refine goE_intro k22 ?_
          simp -implicitDefEqProofs only [go_sem, ↓reduceIte, Nat.reduceEqDiff, Int.reduceLT, Nat.reduceLT, Int.reduceToNat, Int.reducePow, Nat.reduceAdd, Int.reduceEq, Nat.reduceLeDiff, Int.reduceLE]
          have s23 := k22.size
          obtain ⟨y23, S23, hx23, q23⟩ := store_cells2 hb22 (kMsg.len hz22) (allOne_of (kMsg.one hz22))
          simp -implicitDefEqProofs only [go_sem, ↓reduceIte, Nat.reduceEqDiff, Int.reduceLT, Nat.reduceLT, Int.reduceToNat, Int.reducePow, Nat.reduceAdd, Int.reduceEq, Nat.reduceLeDiff, Int.reduceLE, S23]
          exact hK' _ _ ⟨by simp -implicitDefEqProofs only [go_sem, ↓reduceIte, Nat.reduceEqDiff, Int.reduceLT, Nat.reduceLT, Int.reduceToNat, Int.reducePow, Nat.reduceAdd, Int.reduceEq, Nat.reduceLeDiff, Int.reduceLE, g2], by simp -implicitDefEqProofs only [go_sem, ↓reduceIte, Nat.reduceEqDiff, Int.reduceLT, Nat.reduceLT, Int.reduceToNat, Int.reducePow, Nat.reduceAdd, Int.reduceEq, Nat.reduceLeDiff, Int.reduceLE], k22.new q23 (fun k e hk => by have : k = bxn := e; omega)⟩
    · intro K' hK'
      have ldk : ∀ w', Keep w4 w' → w'.cell? (At b0 0) = some (.int .u8 x.kind) := fun w' k' => (cell_fx hM4 k' (fun h => h) 0).trans hck
      refine frs_intro (fun wz => Keep w4 wz) (Fx.drew _ _) ?_
      have h0c : (0 : Int) ≤ (j : Int) := h0
      simp -implicitDefEqProofs only [go_sem, ↓reduceIte, Nat.reduceEqDiff, Int.reduceLT, Nat.reduceLT, Int.reduceToNat, Int.reducePow, Nat.reduceAdd, Int.reduceEq, Nat.reduceLeDiff, Int.reduceLE, h0c, h2]
      refine hld_intro (.int .u8 x.kind) (Fx.drew _ _) (fun w' k' => by have := ldk w' k'; simp -implicitDefEqProofs only [go_sem, ↓reduceIte, Nat.reduceEqDiff, Int.reduceLT, Nat.reduceLT, Int.reduceToNat, Int.reducePow, Nat.reduceAdd, Int.reduceEq, Nat.reduceLeDiff, Int.reduceLE, this]; exact ⟨trivial, trivial⟩) ?_
      have kd : Keep w4 w4.drew := Fx.drew _ _
      have getx : ∀ wz, Keep w4 wz → callK Try.prog 14 #[.int .u8 x.kind, .slice A j c] wz fun v w' => ∃ cs, v = .tuple #[.agg (List.toArray cs), .int .i64 40] ∧ kMsg.rep (fun k => wz.heap.size ≤ k) w' (getMsg x.kind (bs.take j)).1 cs ∧ Keep wz w' := by
        intro wz kz
        have := get_msg_calls (w := wz) (A := A) (c := c) (b := bs.take j) n0 n1 (by omega) (by simp only [maxLen]; omega) (elems_of ((hr.take j).fx kz (fun _ _ h => h)) (fun ad e hne => by
          subst e
          have := (ho.lt (k := ad.block) rfl).2
          have := kz.size
          omega) (fun x hx => u8_wf (hbs.take j x hx).1 (hbs.take j x hx).2))
        rw [hlj, hje] at this
        exact this
      simp -implicitDefEqProofs only [go_sem, ↓reduceIte, Nat.reduceEqDiff, Int.reduceLT, Nat.reduceLT, Int.reduceToNat, Int.reducePow, Nat.reduceAdd, Int.reduceEq, Nat.reduceLeDiff, Int.reduceLE]
      generalize w4.drew = wd at *
      refine frk_intro ?_ ?_
      · simp -implicitDefEqProofs only [go_sem, ↓reduceIte, Nat.reduceEqDiff, Int.reduceLT, Nat.reduceLT, Int.reduceToNat, Int.reducePow, Nat.reduceAdd, Int.reduceEq, Nat.reduceLeDiff, Int.reduceLE]
        refine (getx wd kd).mono ?_
        rintro v u1 ⟨cs1, rfl, hz1, q1⟩
        have k1 := kd.tr q1
        simp -implicitDefEqProofs only [go_sem, ↓reduceIte, Nat.reduceEqDiff, Int.reduceLT, Nat.reduceLT, Int.reduceToNat, Int.reducePow, Nat.reduceAdd, Int.reduceEq, Nat.reduceLeDiff, Int.reduceLE]
        refine shs_intro k1 ?_
        simp -implicitDefEqProofs only [go_sem, ↓reduceIte, Nat.reduceEqDiff, Int.reduceLT, Nat.reduceLT, Int.reduceToNat, Int.reducePow, Nat.reduceAdd, Int.reduceEq, Nat.reduceLeDiff, Int.reduceLE]
        refine goE_intro (k1.tr (Fx.alloc _ _ _)) ?_
        obtain ⟨y1, S1, hx1, p1, _⟩ := store_cells (w := u1) (kMsg.len hz1) (allOne_of (kMsg.one hz1))
        simp -implicitDefEqProofs only [go_sem, ↓reduceIte, Nat.reduceEqDiff, Int.reduceLT, Nat.reduceLT, Int.reduceToNat, Int.reducePow, Nat.reduceAdd, Int.reduceEq, Nat.reduceLeDiff, Int.reduceLE, S1]
        exact hK' _ _ ⟨by simp -implicitDefEqProofs only [go_sem, ↓reduceIte, Nat.reduceEqDiff, Int.reduceLT, Nat.reduceLT, Int.reduceToNat, Int.reducePow, Nat.reduceAdd, Int.reduceEq, Nat.reduceLeDiff, Int.reduceLE], by simp -implicitDefEqProofs only [go_sem, ↓reduceIte, Nat.reduceEqDiff, Int.reduceLT, Nat.reduceLT, Int.reduceToNat, Int.reducePow, Nat.reduceAdd, Int.reduceEq, Nat.reduceLeDiff, Int.reduceLE], by simp -implicitDefEqProofs only [go_sem, ↓reduceIte, Nat.reduceEqDiff, Int.reduceLT, Nat.reduceLT, Int.reduceToNat, Int.reducePow, Nat.reduceAdd, Int.reduceEq, Nat.reduceLeDiff, Int.reduceLE], by simp -implicitDefEqProofs only [go_sem, ↓reduceIte, Nat.reduceEqDiff, Int.reduceLT, Nat.reduceLT, Int.reduceToNat, Int.reducePow, Nat.reduceAdd, Int.reduceEq, Nat.reduceLeDiff, Int.reduceLE], k1.tr p1⟩
      · simp -implicitDefEqProofs only [go_sem, ↓reduceIte, Nat.reduceEqDiff, Int.reduceLT, Nat.reduceLT, Int.reduceToNat, Int.reducePow, Nat.reduceAdd, Int.reduceEq, Nat.reduceLeDiff, Int.reduceLE]
        have s1 := kd.size
        have k1 : Keep w4 (wd.alloc (.cells #[.int .u8 0, .int .u32 0, .int .u32 0, .int .u64 0, .int .u8 0, .int .u32 0, .string ⟨#[]⟩, .string ⟨#[]⟩, .int .u8 0, .int .u8 0, .bool false, .int .u8 0, .int .u16 0, .slice none 0 0, .int .u32 0, .slice none 0 0, .int .u16 0, .int .u16 0, .slice none 0 0, .slice none 0 0, .slice none 0 0, .int .u32 0, .int .u32 0, .slice none 0 0, .int .u64 0, .slice none 0 0, .slice none 0 0, .slice none 0 0] 37)) := kd.tr (Fx.alloc _ _ _)
        have hb1 : Blk _ _ _ _ := Blk.new wd 37 #[.int .u8 0, .int .u32 0, .int .u32 0, .int .u64 0, .int .u8 0, .int .u32 0, .string ⟨#[]⟩, .string ⟨#[]⟩, .int .u8 0, .int .u8 0, .bool false, .int .u8 0, .int .u16 0, .slice none 0 0, .int .u32 0, .slice none 0 0, .int .u16 0, .int .u16 0, .slice none 0 0, .slice none 0 0, .slice none 0 0, .int .u32 0, .int .u32 0, .slice none 0 0, .int .u64 0, .slice none 0 0, .slice none 0 0, .slice none 0 0]
        obtain ⟨bxn, hbxn⟩ : ∃ b, b = wd.heap.size := ⟨_, rfl⟩
        rw [← hbxn] at hb1 ⊢
        generalize wd.alloc (.cells #[.int .u8 0, .int .u32 0, .int .u32 0, .int .u64 0, .int .u8 0, .int .u32 0, .string ⟨#[]⟩, .string ⟨#[]⟩, .int .u8 0, .int .u8 0, .bool false, .int .u8 0, .int .u16 0, .slice none 0 0, .int .u32 0, .slice none 0 0, .int .u16 0, .int .u16 0, .slice none 0 0, .slice none 0 0, .slice none 0 0, .int .u32 0, .int .u32 0, .slice none 0 0, .int .u64 0, .slice none 0 0, .slice none 0 0, .slice none 0 0] 37) = u1 at *
        refine shs_intro k1 ?_
        simp -implicitDefEqProofs only [go_sem, ↓reduceIte, Nat.reduceEqDiff, Int.reduceLT, Nat.reduceLT, Int.reduceToNat, Int.reducePow, Nat.reduceAdd, Int.reduceEq, Nat.reduceLeDiff, Int.reduceLE]
        refine (getx u1 k1).mono ?_
        rintro v u2 ⟨cs2, rfl, hz2, q2⟩
        refine goE_intro (k1.tr q2) ?_
        obtain ⟨y2, S2, hx2, p2⟩ := store_cells2 (q2.blk hb1 (fun h => h)) (kMsg.len hz2) (allOne_of (kMsg.one hz2))
        simp -implicitDefEqProofs only [go_sem, ↓reduceIte, Nat.reduceEqDiff, Int.reduceLT, Nat.reduceLT, Int.reduceToNat, Int.reducePow, Nat.reduceAdd, Int.reduceEq, Nat.reduceLeDiff, Int.reduceLE, S2]
        exact hK' _ _ ⟨by simp -implicitDefEqProofs only [go_sem, ↓reduceIte, Nat.reduceEqDiff, Int.reduceLT, Nat.reduceLT, Int.reduceToNat, Int.reducePow, Nat.reduceAdd, Int.reduceEq, Nat.reduceLeDiff, Int.reduceLE], by simp -implicitDefEqProofs only [go_sem, ↓reduceIte, Nat.reduceEqDiff, Int.reduceLT, Nat.reduceLT, Int.reduceToNat, Int.reducePow, Nat.reduceAdd, Int.reduceEq, Nat.reduceLeDiff, Int.reduceLE], by simp -implicitDefEqProofs only [go_sem, ↓reduceIte, Nat.reduceEqDiff, Int.reduceLT, Nat.reduceLT, Int.reduceToNat, Int.reducePow, Nat.reduceAdd, Int.reduceEq, Nat.reduceLeDiff, Int.reduceLE], by simp -implicitDefEqProofs only [go_sem, ↓reduceIte, Nat.reduceEqDiff, Int.reduceLT, Nat.reduceLT, Int.reduceToNat, Int.reducePow, Nat.reduceAdd, Int.reduceEq, Nat.reduceLeDiff, Int.reduceLE], (k1.tr q2).new p2 (fun k e hk => by have : k = bxn := e; omega)⟩
  · have k5 : Keep w4 w4 := Fx.refl _ _
    have both : ∀ (K : Prop), (¬ 0 ≤ cut → K) → (0 ≤ cut → ¬ cut < (bs.length : Int) → K) → K := fun K a1 a2 => by
      by_cases h : 0 ≤ cut
      · exact a2 h (fun h' => hin ⟨h, h'⟩)
      · exact a1 h
    obtain ⟨w5, hw5⟩ : ∃ w5, w5 = w4 := ⟨_, rfl⟩
    have k5 : Keep w4 w5 := by rw [hw5]; exact Fx.refl _ _
    have g2 : (Value.slice A2 more.length c2) = .slice A2 more.length c2 := rfl
    have g3 := g2
    have g7 := g2
    refine both _ (fun h0 => ?_) (fun h0 h1 => ?_)
    · simp -implicitDefEqProofs only [go_sem, ↓reduceIte, Nat.reduceEqDiff, Int.reduceLT, Nat.reduceLT, Int.reduceToNat, Int.reducePow, Nat.reduceAdd, Int.reduceEq, Nat.reduceLeDiff, Int.reduceLE, h0]
      rw [← hw5]
      refine frs_gen (fun f => f 2 = .slice A2 more.length c2 ∧ f 3 = .pointer (some (At b0 0)) ∧ f 7 = .slice A bs.length c) ⟨by simp -implicitDefEqProofs only [go_sem, ↓reduceIte, Nat.reduceEqDiff, Int.reduceLT, Nat.reduceLT, Int.reduceToNat, Int.reducePow, Nat.reduceAdd, Int.reduceEq, Nat.reduceLeDiff, Int.reduceLE, g2], by simp -implicitDefEqProofs only [go_sem, ↓reduceIte, Nat.reduceEqDiff, Int.reduceLT, Nat.reduceLT, Int.reduceToNat, Int.reducePow, Nat.reduceAdd, Int.reduceEq, Nat.reduceLeDiff, Int.reduceLE, g3], by simp -implicitDefEqProofs only [go_sem, ↓reduceIte, Nat.reduceEqDiff, Int.reduceLT, Nat.reduceLT, Int.reduceToNat, Int.reducePow, Nat.reduceAdd, Int.reduceEq, Nat.reduceLeDiff, Int.reduceLE, g7]⟩ ?_
      rintro f ⟨g2, g3, g7⟩
      have hm5 := hm4.fx k5 (fun _ _ h => h)
      have hr := hr.fx k5 (fun _ _ h => h)
      have hM5 := hM4.keep k5
      have kk5 := kk4.tr k5
      refine frs_cut (T := fun f w' => f 2 = .slice A2 more.length c2 ∧ f 12 = .int .i64 (if more = [] then 0 else 60) ∧ Keep w5 w') ?_ ?_
      · rintro f w6 ⟨g2, g12, k6⟩
        by_cases hm : more = []
        · rw [if_pos hm] at g12
          have hml : more.length = 0 := by rw [hm]; rfl
          have y1 : ((0 : Int) == 60) = false := rfl
          have y2 : ¬ (0 : Int) < (more.length : Int) := by omega
          have y3 : (false == false) = true := rfl
          simp -implicitDefEqProofs only [go_sem, ↓reduceIte, Nat.reduceEqDiff, Int.reduceLT, Nat.reduceLT, Int.reduceToNat, Int.reducePow, Nat.reduceAdd, Int.reduceEq, Nat.reduceLeDiff, Int.reduceLE, g2, g12, y1, y2, y3]
          exact ⟨by first | rfl | trivial, kk5.tr k6⟩
        · rw [if_neg hm] at g12
          have hml : 0 < more.length := List.length_pos_iff.2 hm
          have y1 : ((60 : Int) == 60) = true := rfl
          have y2 : (0 : Int) < (more.length : Int) := by omega
          have y3 : (true == true) = true := rfl
          simp -implicitDefEqProofs only [go_sem, ↓reduceIte, Nat.reduceEqDiff, Int.reduceLT, Nat.reduceLT, Int.reduceToNat, Int.reducePow, Nat.reduceAdd, Int.reduceEq, Nat.reduceLeDiff, Int.reduceLE, g2, g12, y1, y2, y3]
          exact ⟨by first | rfl | trivial, kk5.tr k6⟩
      · intro K' hK'
        have ldk : ∀ w', Keep w5 w' → w'.cell? (At b0 0) = some (.int .u8 x.kind) := fun w' k' => (cell_fx hM5 k' (fun h => h) 0).trans ((cell_fx hM4 k5 (fun h => h) 0).trans hck)
        refine frs_intro (fun wz => Keep w5 wz) (Fx.drew _ _) ?_
        simp -implicitDefEqProofs only [go_sem, ↓reduceIte, Nat.reduceEqDiff, Int.reduceLT, Nat.reduceLT, Int.reduceToNat, Int.reducePow, Nat.reduceAdd, Int.reduceEq, Nat.reduceLeDiff, Int.reduceLE, g2, g3, g7]
        refine hld_intro (.int .u8 x.kind) (Fx.drew _ _) (fun w' k' => by have := ldk w' k'; simp -implicitDefEqProofs only [go_sem, ↓reduceIte, Nat.reduceEqDiff, Int.reduceLT, Nat.reduceLT, Int.reduceToNat, Int.reducePow, Nat.reduceAdd, Int.reduceEq, Nat.reduceLeDiff, Int.reduceLE, this]; exact ⟨trivial, trivial⟩) ?_
        have kd : Keep w5 w5.drew := Fx.drew _ _
        simp -implicitDefEqProofs only [go_sem, ↓reduceIte, Nat.reduceEqDiff, Int.reduceLT, Nat.reduceLT, Int.reduceToNat, Int.reducePow, Nat.reduceAdd, Int.reduceEq, Nat.reduceLeDiff, Int.reduceLE]
        generalize w5.drew = wd at *
        refine frk_intro ?_ ?_
        · simp -implicitDefEqProofs only [go_sem, ↓reduceIte, Nat.reduceEqDiff, Int.reduceLT, Nat.reduceLT, Int.reduceToNat, Int.reducePow, Nat.reduceAdd, Int.reduceEq, Nat.reduceLeDiff, Int.reduceLE]
          have s1 := kd.size
          refine bsl_none et33 ?_
          have k1 : Keep w5 (wd.alloc (.cells #[] 5)) := kd.tr (Fx.alloc _ _ _)
          have o1 : OwnI 5 .u8 w5.heap.size _ _ _ := OwnI.new wd 5 .u8 [] s1 (by simp)
          simp only [List.map_nil, List.length_nil] at o1
          generalize wd.alloc (.cells #[] 5) = u1 at *
          simp -implicitDefEqProofs only [go_sem, ↓reduceIte, Nat.reduceEqDiff, Int.reduceLT, Nat.reduceLT, Int.reduceToNat, Int.reducePow, Nat.reduceAdd, Int.reduceEq, Nat.reduceLeDiff, Int.reduceLE]
          refine shs_intro k1 ?_
          simp -implicitDefEqProofs only [go_sem, ↓reduceIte, Nat.reduceEqDiff, Int.reduceLT, Nat.reduceLT, Int.reduceToNat, Int.reducePow, Nat.reduceAdd, Int.reduceEq, Nat.reduceLeDiff, Int.reduceLE]
          refine frk_intro ?_ ?_
          · simp -implicitDefEqProofs only [go_sem, ↓reduceIte, Nat.reduceEqDiff, Int.reduceLT, Nat.reduceLT, Int.reduceToNat, Int.reducePow, Nat.reduceAdd, Int.reduceEq, Nat.reduceLeDiff, Int.reduceLE]
            have s2 := k1.size
            refine append_own ie8 (by decide) o1 (hr.fx k1 (fun _ _ h => h)) (by rw [List.length_nil]; omega) s2 ?_
            intro v2 u2 o2 f2 _
            rw [List.nil_append] at o2
            have k2 := k1.new f2 (fun k e hk => by have := (o1.lt e).1; omega)
            simp -implicitDefEqProofs only [go_sem, ↓reduceIte, Nat.reduceEqDiff, Int.reduceLT, Nat.reduceLT, Int.reduceToNat, Int.reducePow, Nat.reduceAdd, Int.reduceEq, Nat.reduceLeDiff, Int.reduceLE]
            refine shs_intro k2 ?_
            simp -implicitDefEqProofs only [go_sem, ↓reduceIte, Nat.reduceEqDiff, Int.reduceLT, Nat.reduceLT, Int.reduceToNat, Int.reducePow, Nat.reduceAdd, Int.reduceEq, Nat.reduceLeDiff, Int.reduceLE]
            refine frk_intro ?_ ?_
            · simp -implicitDefEqProofs only [go_sem, ↓reduceIte, Nat.reduceEqDiff, Int.reduceLT, Nat.reduceLT, Int.reduceToNat, Int.reducePow, Nat.reduceAdd, Int.reduceEq, Nat.reduceLeDiff, Int.reduceLE]
              have s3 := k2.size
              refine append_own ie8 (by decide) o2 (hm5.fx k2 (fun _ _ h => h)) (by omega) s3 ?_
              intro v3 u3 o3 f3 _
              have k3 := k2.new f3 (fun k e hk => by have := (o2.lt e).1; omega)
              simp -implicitDefEqProofs only [go_sem, ↓reduceIte, Nat.reduceEqDiff, Int.reduceLT, Nat.reduceLT, Int.reduceToNat, Int.reducePow, Nat.reduceAdd, Int.reduceEq, Nat.reduceLeDiff, Int.reduceLE]
              refine shs_intro k3 ?_
              simp -implicitDefEqProofs only [go_sem, ↓reduceIte, Nat.reduceEqDiff, Int.reduceLT, Nat.reduceLT, Int.reduceToNat, Int.reducePow, Nat.reduceAdd, Int.reduceEq, Nat.reduceLeDiff, Int.reduceLE]
              refine frk_intro ?_ ?_
              · simp -implicitDefEqProofs only [go_sem, ↓reduceIte, Nat.reduceEqDiff, Int.reduceLT, Nat.reduceLT, Int.reduceToNat, Int.reducePow, Nat.reduceAdd, Int.reduceEq, Nat.reduceLeDiff, Int.reduceLE]
                have s4 := k3.size
                obtain ⟨A4, c4, rfl, hc4, hr4⟩ := o3.slice
                obtain ⟨hcm4, he4⟩ := elems_own o3 hbm
                refine (get_msg_calls n0 n1 hc4 hcm4 (he4.mono Nat.zero_lt_one fun k hk _ => hk)).mono ?_
                rw [hmore]
                rintro v u4 ⟨cs4, rfl, hz4, q4⟩
                have k4 := k3.tr q4
                simp -implicitDefEqProofs only [go_sem, ↓reduceIte, Nat.reduceEqDiff, Int.reduceLT, Nat.reduceLT, Int.reduceToNat, Int.reducePow, Nat.reduceAdd, Int.reduceEq, Nat.reduceLeDiff, Int.reduceLE]
                refine shs_intro k4 ?_
                simp -implicitDefEqProofs only [go_sem, ↓reduceIte, Nat.reduceEqDiff, Int.reduceLT, Nat.reduceLT, Int.reduceToNat, Int.reducePow, Nat.reduceAdd, Int.reduceEq, Nat.reduceLeDiff, Int.reduceLE]
                refine goE_intro (k4.tr (Fx.alloc _ _ _)) ?_
                obtain ⟨y5, S5, hx5, q5, _⟩ := store_cells (w := u4) (kMsg.len hz4) (allOne_of (kMsg.one hz4))
                simp -implicitDefEqProofs only [go_sem, ↓reduceIte, Nat.reduceEqDiff, Int.reduceLT, Nat.reduceLT, Int.reduceToNat, Int.reducePow, Nat.reduceAdd, Int.reduceEq, Nat.reduceLeDiff, Int.reduceLE, S5]
                exact hK' _ _ ⟨by simp -implicitDefEqProofs only [go_sem, ↓reduceIte, Nat.reduceEqDiff, Int.reduceLT, Nat.reduceLT, Int.reduceToNat, Int.reducePow, Nat.reduceAdd, Int.reduceEq, Nat.reduceLeDiff, Int.reduceLE, g2], by simp -implicitDefEqProofs only [go_sem, ↓reduceIte, Nat.reduceEqDiff, Int.reduceLT, Nat.reduceLT, Int.reduceToNat, Int.reducePow, Nat.reduceAdd, Int.reduceEq, Nat.reduceLeDiff, Int.reduceLE], k4.tr q5⟩
              · simp -implicitDefEqProofs only [go_sem, ↓reduceIte, Nat.reduceEqDiff, Int.reduceLT, Nat.reduceLT, Int.reduceToNat, Int.reducePow, Nat.reduceAdd, Int.reduceEq, Nat.reduceLeDiff, Int.reduceLE]
                have s6 := k3.size
                have k6 : Keep w5 (u3.alloc (.cells #[.int .u8 0, .int .u32 0, .int .u32 0, .int .u64 0, .int .u8 0, .int .u32 0, .string ⟨#[]⟩, .string ⟨#[]⟩, .int .u8 0, .int .u8 0, .bool false, .int .u8 0, .int .u16 0, .slice none 0 0, .int .u32 0, .slice none 0 0, .int .u16 0, .int .u16 0, .slice none 0 0, .slice none 0 0, .slice none 0 0, .int .u32 0, .int .u32 0, .slice none 0 0, .int .u64 0, .slice none 0 0, .slice none 0 0, .slice none 0 0] 37)) := k3.tr (Fx.alloc _ _ _)
                have hb6 : Blk _ _ _ _ := Blk.new u3 37 #[.int .u8 0, .int .u32 0, .int .u32 0, .int .u64 0, .int .u8 0, .int .u32 0, .string ⟨#[]⟩, .string ⟨#[]⟩, .int .u8 0, .int .u8 0, .bool false, .int .u8 0, .int .u16 0, .slice none 0 0, .int .u32 0, .slice none 0 0, .int .u16 0, .int .u16 0, .slice none 0 0, .slice none 0 0, .slice none 0 0, .int .u32 0, .int .u32 0, .slice none 0 0, .int .u64 0, .slice none 0 0, .slice none 0 0, .slice none 0 0]
                obtain ⟨bxn, hbxn⟩ : ∃ b, b = u3.heap.size := ⟨_, rfl⟩
                rw [← hbxn] at hb6 ⊢
                have ox6 := o3.fx (Fx.alloc (fun _ => False) u3 (.cells #[.int .u8 0, .int .u32 0, .int .u32 0, .int .u64 0, .int .u8 0, .int .u32 0, .string ⟨#[]⟩, .string ⟨#[]⟩, .int .u8 0, .int .u8 0, .bool false, .int .u8 0, .int .u16 0, .slice none 0 0, .int .u32 0, .slice none 0 0, .int .u16 0, .int .u16 0, .slice none 0 0, .slice none 0 0, .slice none 0 0, .int .u32 0, .int .u32 0, .slice none 0 0, .int .u64 0, .slice none 0 0, .slice none 0 0, .slice none 0 0] 37)) (fun _ _ h => h)
                generalize u3.alloc (.cells #[.int .u8 0, .int .u32 0, .int .u32 0, .int .u64 0, .int .u8 0, .int .u32 0, .string ⟨#[]⟩, .string ⟨#[]⟩, .int .u8 0, .int .u8 0, .bool false, .int .u8 0, .int .u16 0, .slice none 0 0, .int .u32 0, .slice none 0 0, .int .u16 0, .int .u16 0, .slice none 0 0, .slice none 0 0, .slice none 0 0, .int .u32 0, .int .u32 0, .slice none 0 0, .int .u64 0, .slice none 0 0, .slice none 0 0, .slice none 0 0] 37) = u6 at *
                refine shs_intro k6 ?_
                simp -implicitDefEqProofs only [go_sem, ↓reduceIte, Nat.reduceEqDiff, Int.reduceLT, Nat.reduceLT, Int.reduceToNat, Int.reducePow, Nat.reduceAdd, Int.reduceEq, Nat.reduceLeDiff, Int.reduceLE]
                have s7 := k6.size
                obtain ⟨A7, c7, rfl, hc7, hr7⟩ := ox6.slice
                obtain ⟨hcm7, he7⟩ := elems_own ox6 hbm
                refine (get_msg_calls n0 n1 hc7 hcm7 (he7.mono Nat.zero_lt_one fun k hk _ => hk)).mono ?_
                rw [hmore]
                rintro v u7 ⟨cs7, rfl, hz7, q7⟩
                have k7 := k6.tr q7
                have hb7 := q7.blk hb6 (fun h => h)
                refine goE_intro k7 ?_
                simp -implicitDefEqProofs only [go_sem, ↓reduceIte, Nat.reduceEqDiff, Int.reduceLT, Nat.reduceLT, Int.reduceToNat, Int.reducePow, Nat.reduceAdd, Int.reduceEq, Nat.reduceLeDiff, Int.reduceLE]
                have s8 := k7.size
                obtain ⟨y8, S8, hx8, q8⟩ := store_cells2 hb7 (kMsg.len hz7) (allOne_of (kMsg.one hz7))
                simp -implicitDefEqProofs only [go_sem, ↓reduceIte, Nat.reduceEqDiff, Int.reduceLT, Nat.reduceLT, Int.reduceToNat, Int.reducePow, Nat.reduceAdd, Int.reduceEq, Nat.reduceLeDiff, Int.reduceLE, S8]
                exact hK' _ _ ⟨by simp -implicitDefEqProofs only [go_sem, ↓reduceIte, Nat.reduceEqDiff, Int.reduceLT, Nat.reduceLT, Int.reduceToNat, Int.reducePow, Nat.reduceAdd, Int.reduceEq, Nat.reduceLeDiff, Int.reduceLE, g2], by simp -implicitDefEqProofs only [go_sem, ↓reduceIte, Nat.reduceEqDiff, Int.reduceLT, Nat.reduceLT, Int.reduceToNat, Int.reducePow, Nat.reduceAdd, Int.reduceEq, Nat.reduceLeDiff, Int.reduceLE], k7.new q8 (fun k e hk => by have : k = bxn := e; omega)⟩
            · simp -implicitDefEqProofs only [go_sem, ↓reduceIte, Nat.reduceEqDiff, Int.reduceLT, Nat.reduceLT, Int.reduceToNat, Int.reducePow, Nat.reduceAdd, Int.reduceEq, Nat.reduceLeDiff, Int.reduceLE]
              have s9 := k2.size
              have k9 : Keep w5 (u2.alloc (.cells #[.int .u8 0, .int .u32 0, .int .u32 0, .int .u64 0, .int .u8 0, .int .u32 0, .string ⟨#[]⟩, .string ⟨#[]⟩, .int .u8 0, .int .u8 0, .bool false, .int .u8 0, .int .u16 0, .slice none 0 0, .int .u32 0, .slice none 0 0, .int .u16 0, .int .u16 0, .slice none 0 0, .slice none 0 0, .slice none 0 0, .int .u32 0, .int .u32 0, .slice none 0 0, .int .u64 0, .slice none 0 0, .slice none 0 0, .slice none 0 0] 37)) := k2.tr (Fx.alloc _ _ _)
              have hb9 : Blk _ _ _ _ := Blk.new u2 37 #[.int .u8 0, .int .u32 0, .int .u32 0, .int .u64 0, .int .u8 0, .int .u32 0, .string ⟨#[]⟩, .string ⟨#[]⟩, .int .u8 0, .int .u8 0, .bool false, .int .u8 0, .int .u16 0, .slice none 0 0, .int .u32 0, .slice none 0 0, .int .u16 0, .int .u16 0, .slice none 0 0, .slice none 0 0, .slice none 0 0, .int .u32 0, .int .u32 0, .slice none 0 0, .int .u64 0, .slice none 0 0, .slice none 0 0, .slice none 0 0]
              obtain ⟨bxn, hbxn⟩ : ∃ b, b = u2.heap.size := ⟨_, rfl⟩
              rw [← hbxn] at hb9 ⊢
              have ox9 := o2.fx (Fx.alloc (fun _ => False) u2 (.cells #[.int .u8 0, .int .u32 0, .int .u32 0, .int .u64 0, .int .u8 0, .int .u32 0, .string ⟨#[]⟩, .string ⟨#[]⟩, .int .u8 0, .int .u8 0, .bool false, .int .u8 0, .int .u16 0, .slice none 0 0, .int .u32 0, .slice none 0 0, .int .u16 0, .int .u16 0, .slice none 0 0, .slice none 0 0, .slice none 0 0, .int .u32 0, .int .u32 0, .slice none 0 0, .int .u64 0, .slice none 0 0, .slice none 0 0, .slice none 0 0] 37)) (fun _ _ h => h)
              generalize u2.alloc (.cells #[.int .u8 0, .int .u32 0, .int .u32 0, .int .u64 0, .int .u8 0, .int .u32 0, .string ⟨#[]⟩, .string ⟨#[]⟩, .int .u8 0, .int .u8 0, .bool false, .int .u8 0, .int .u16 0, .slice none 0 0, .int .u32 0, .slice none 0 0, .int .u16 0, .int .u16 0, .slice none 0 0, .slice none 0 0, .slice none 0 0, .int .u32 0, .int .u32 0, .slice none 0 0, .int .u64 0, .slice none 0 0, .slice none 0 0, .slice none 0 0] 37) = u9 at *
              refine shs_intro k9 ?_
              simp -implicitDefEqProofs only [go_sem, ↓reduceIte, Nat.reduceEqDiff, Int.reduceLT, Nat.reduceLT, Int.reduceToNat, Int.reducePow, Nat.reduceAdd, Int.reduceEq, Nat.reduceLeDiff, Int.reduceLE]
              have s10 := k9.size
              refine append_own ie8 (by decide) ox9 (hm5.fx k9 (fun _ _ h => h)) (by omega) s10 ?_
              intro v10 u10 o10 f10 _
              have k10 := k9.new f10 (fun k e hk => by have := (ox9.lt e).1; omega)
              have hb10 := f10.blk hb9 (fun e => ox9.ne hb9 (by decide) e.symm)
              refine goE_intro k10 ?_
              simp -implicitDefEqProofs only [go_sem, ↓reduceIte, Nat.reduceEqDiff, Int.reduceLT, Nat.reduceLT, Int.reduceToNat, Int.reducePow, Nat.reduceAdd, Int.reduceEq, Nat.reduceLeDiff, Int.reduceLE]
              have s11 := k10.size
              obtain ⟨A11, c11, rfl, hc11, hr11⟩ := o10.slice
              obtain ⟨hcm11, he11⟩ := elems_own o10 hbm
              refine (get_msg_calls n0 n1 hc11 hcm11 (he11.mono Nat.zero_lt_one fun k hk _ => hk)).mono ?_
              rw [hmore]
              rintro v u11 ⟨cs11, rfl, hz11, q11⟩
              have k11 := k10.tr q11
              have hb11 := q11.blk hb10 (fun h => h)
              refine goE_intro k11 ?_
              simp -implicitDefEqProofs only [go_sem, ↓reduceIte, Nat.reduceEqDiff, Int.reduceLT, Nat.reduceLT, Int.reduceToNat, Int.reducePow, Nat.reduceAdd, Int.reduceEq, Nat.reduceLeDiff, Int.reduceLE]
              have s12 := k11.size
              obtain ⟨y12, S12, hx12, q12⟩ := store_cells2 hb11 (kMsg.len hz11) (allOne_of (kMsg.one hz11))
              simp -implicitDefEqProofs only [go_sem, ↓reduceIte, Nat.reduceEqDiff, Int.reduceLT, Nat.reduceLT, Int.reduceToNat, Int.reducePow, Nat.reduceAdd, Int.reduceEq, Nat.reduceLeDiff, Int.reduceLE, S12]
              exact hK' _ _ ⟨by simp -implicitDefEqProofs only [go_sem, ↓reduceIte, Nat.reduceEqDiff, Int.reduceLT, Nat.reduceLT, Int.reduceToNat, Int.reducePow, Nat.reduceAdd, Int.reduceEq, Nat.reduceLeDiff, Int.reduceLE, g2], by simp -implicitDefEqProofs only [go_sem, ↓reduceIte, Nat.reduceEqDiff, Int.reduceLT, Nat.reduceLT, Int.reduceToNat, Int.reducePow, Nat.reduceAdd, Int.reduceEq, Nat.reduceLeDiff, Int.reduceLE], k11.new q12 (fun k e hk => by have : k = bxn := e; omega)⟩
          · simp -implicitDefEqProofs only [go_sem, ↓reduceIte, Nat.reduceEqDiff, Int.reduceLT, Nat.reduceLT, Int.reduceToNat, Int.reducePow, Nat.reduceAdd, Int.reduceEq, Nat.reduceLeDiff, Int.reduceLE]
            have s13 := k1.size
            have k13 : Keep w5 (u1.alloc (.cells #[.int .u8 0, .int .u32 0, .int .u32 0, .int .u64 0, .int .u8 0, .int .u32 0, .string ⟨#[]⟩, .string ⟨#[]⟩, .int .u8 0, .int .u8 0, .bool false, .int .u8 0, .int .u16 0, .slice none 0 0, .int .u32 0, .slice none 0 0, .int .u16 0, .int .u16 0, .slice none 0 0, .slice none 0 0, .slice none 0 0, .int .u32 0, .int .u32 0, .slice none 0 0, .int .u64 0, .slice none 0 0, .slice none 0 0, .slice none 0 0] 37)) := k1.tr (Fx.alloc _ _ _)
            have hb13 : Blk _ _ _ _ := Blk.new u1 37 #[.int .u8 0, .int .u32 0, .int .u32 0, .int .u64 0, .int .u8 0, .int .u32 0, .string ⟨#[]⟩, .string ⟨#[]⟩, .int .u8 0, .int .u8 0, .bool false, .int .u8 0, .int .u16 0, .slice none 0 0, .int .u32 0, .slice none 0 0, .int .u16 0, .int .u16 0, .slice none 0 0, .slice none 0 0, .slice none 0 0, .int .u32 0, .int .u32 0, .slice none 0 0, .int .u64 0, .slice none 0 0, .slice none 0 0, .slice none 0 0]
            obtain ⟨bxn, hbxn⟩ : ∃ b, b = u1.heap.size := ⟨_, rfl⟩
            rw [← hbxn] at hb13 ⊢
            have ox13 := o1.fx (Fx.alloc (fun _ => False) u1 (.cells #[.int .u8 0, .int .u32 0, .int .u32 0, .int .u64 0, .int .u8 0, .int .u32 0, .string ⟨#[]⟩, .string ⟨#[]⟩, .int .u8 0, .int .u8 0, .bool false, .int .u8 0, .int .u16 0, .slice none 0 0, .int .u32 0, .slice none 0 0, .int .u16 0, .int .u16 0, .slice none 0 0, .slice none 0 0, .slice none 0 0, .int .u32 0, .int .u32 0, .slice none 0 0, .int .u64 0, .slice none 0 0, .slice none 0 0, .slice none 0 0] 37)) (fun _ _ h => h)
            generalize u1.alloc (.cells #[.int .u8 0, .int .u32 0, .int .u32 0, .int .u64 0, .int .u8 0, .int .u32 0, .string ⟨#[]⟩, .string ⟨#[]⟩, .int .u8 0, .int .u8 0, .bool false, .int .u8 0, .int .u16 0, .slice none 0 0, .int .u32 0, .slice none 0 0, .int .u16 0, .int .u16 0, .slice none 0 0, .slice none 0 0, .slice none 0 0, .int .u32 0, .int .u32 0, .slice none 0 0, .int .u64 0, .slice none 0 0, .slice none 0 0, .slice none 0 0] 37) = u13 at *
            refine shs_intro k13 ?_
            simp -implicitDefEqProofs only [go_sem, ↓reduceIte, Nat.reduceEqDiff, Int.reduceLT, Nat.reduceLT, Int.reduceToNat, Int.reducePow, Nat.reduceAdd, Int.reduceEq, Nat.reduceLeDiff, Int.reduceLE]
            have s14 := k13.size
            refine append_own ie8 (by decide) ox13 (hr.fx k13 (fun _ _ h => h)) (by rw [List.length_nil]; omega) s14 ?_
            intro v14 u14 o14 f14 _
            rw [List.nil_append] at o14
            have k14 := k13.new f14 (fun k e hk => by have := (ox13.lt e).1; omega)
            have hb14 := f14.blk hb13 (fun e => ox13.ne hb13 (by decide) e.symm)
            refine goE_intro k14 ?_
            simp -implicitDefEqProofs only [go_sem, ↓reduceIte, Nat.reduceEqDiff, Int.reduceLT, Nat.reduceLT, Int.reduceToNat, Int.reducePow, Nat.reduceAdd, Int.reduceEq, Nat.reduceLeDiff, Int.reduceLE]
            have s15 := k14.size
            refine append_own ie8 (by decide) o14 (hm5.fx k14 (fun _ _ h => h)) (by omega) s15 ?_
            intro v15 u15 o15 f15 _
            have k15 := k14.new f15 (fun k e hk => by have := (o14.lt e).1; omega)
            have hb15 := f15.blk hb14 (fun e => o14.ne hb14 (by decide) e.symm)
            refine goE_intro k15 ?_
            simp -implicitDefEqProofs only [go_sem, ↓reduceIte, Nat.reduceEqDiff, Int.reduceLT, Nat.reduceLT, Int.reduceToNat, Int.reducePow, Nat.reduceAdd, Int.reduceEq, Nat.reduceLeDiff, Int.reduceLE]
            have s16 := k15.size
            obtain ⟨A16, c16, rfl, hc16, hr16⟩ := o15.slice
            obtain ⟨hcm16, he16⟩ := elems_own o15 hbm
            refine (get_msg_calls n0 n1 hc16 hcm16 (he16.mono Nat.zero_lt_one fun k hk _ => hk)).mono ?_
            rw [hmore]
            rintro v u16 ⟨cs16, rfl, hz16, q16⟩
            have k16 := k15.tr q16
            have hb16 := q16.blk hb15 (fun h => h)
            refine goE_intro k16 ?_
            simp -implicitDefEqProofs only [go_sem, ↓reduceIte, Nat.reduceEqDiff, Int.reduceLT, Nat.reduceLT, Int.reduceToNat, Int.reducePow, Nat.reduceAdd, Int.reduceEq, Nat.reduceLeDiff, Int.reduceLE]
            have s17 := k16.size
            obtain ⟨y17, S17, hx17, q17⟩ := store_cells2 hb16 (kMsg.len hz16) (allOne_of (kMsg.one hz16))
            simp -implicitDefEqProofs only [go_sem, ↓reduceIte, Nat.reduceEqDiff, Int.reduceLT, Nat.reduceLT, Int.reduceToNat, Int.reducePow, Nat.reduceAdd, Int.reduceEq, Nat.reduceLeDiff, Int.reduceLE, S17]
            exact hK' _ _ ⟨by simp -implicitDefEqProofs only [go_sem, ↓reduceIte, Nat.reduceEqDiff, Int.reduceLT, Nat.reduceLT, Int.reduceToNat, Int.reducePow, Nat.reduceAdd, Int.reduceEq, Nat.reduceLeDiff, Int.reduceLE, g2], by simp -implicitDefEqProofs only [go_sem, ↓reduceIte, Nat.reduceEqDiff, Int.reduceLT, Nat.reduceLT, Int.reduceToNat, Int.reducePow, Nat.reduceAdd, Int.reduceEq, Nat.reduceLeDiff, Int.reduceLE], k16.new q17 (fun k e hk => by have : k = bxn := e; omega)⟩
        · simp -implicitDefEqProofs only [go_sem, ↓reduceIte, Nat.reduceEqDiff, Int.reduceLT, Nat.reduceLT, Int.reduceToNat, Int.reducePow, Nat.reduceAdd, Int.reduceEq, Nat.reduceLeDiff, Int.reduceLE]
          have s18 := kd.size
          have k18 : Keep w5 (wd.alloc (.cells #[.int .u8 0, .int .u32 0, .int .u32 0, .int .u64 0, .int .u8 0, .int .u32 0, .string ⟨#[]⟩, .string ⟨#[]⟩, .int .u8 0, .int .u8 0, .bool false, .int .u8 0, .int .u16 0, .slice none 0 0, .int .u32 0, .slice none 0 0, .int .u16 0, .int .u16 0, .slice none 0 0, .slice none 0 0, .slice none 0 0, .int .u32 0, .int .u32 0, .slice none 0 0, .int .u64 0, .slice none 0 0, .slice none 0 0, .slice none 0 0] 37)) := kd.tr (Fx.alloc _ _ _)
          have hb18 : Blk _ _ _ _ := Blk.new wd 37 #[.int .u8 0, .int .u32 0, .int .u32 0, .int .u64 0, .int .u8 0, .int .u32 0, .string ⟨#[]⟩, .string ⟨#[]⟩, .int .u8 0, .int .u8 0, .bool false, .int .u8 0, .int .u16 0, .slice none 0 0, .int .u32 0, .slice none 0 0, .int .u16 0, .int .u16 0, .slice none 0 0, .slice none 0 0, .slice none 0 0, .int .u32 0, .int .u32 0, .slice none 0 0, .int .u64 0, .slice none 0 0, .slice none 0 0, .slice none 0 0]
          obtain ⟨bxn, hbxn⟩ : ∃ b, b = wd.heap.size := ⟨_, rfl⟩
          rw [← hbxn] at hb18 ⊢
          generalize wd.alloc (.cells #[.int .u8 0, .int .u32 0, .int .u32 0, .int .u64 0, .int .u8 0, .int .u32 0, .string ⟨#[]⟩, .string ⟨#[]⟩, .int .u8 0, .int .u8 0, .bool false, .int .u8 0, .int .u16 0, .slice none 0 0, .int .u32 0, .slice none 0 0, .int .u16 0, .int .u16 0, .slice none 0 0, .slice none 0 0, .slice none 0 0, .int .u32 0, .int .u32 0, .slice none 0 0, .int .u64 0, .slice none 0 0, .slice none 0 0, .slice none 0 0] 37) = u18 at *
          refine shs_intro k18 ?_
          simp -implicitDefEqProofs only [go_sem, ↓reduceIte, Nat.reduceEqDiff, Int.reduceLT, Nat.reduceLT, Int.reduceToNat, Int.reducePow, Nat.reduceAdd, Int.reduceEq, Nat.reduceLeDiff, Int.reduceLE]
          have s19 := k18.size
          refine bsl_none et33 ?_
          have k19 : Keep w5 (u18.alloc (.cells #[] 5)) := k18.tr (Fx.alloc _ _ _)
          have o19 : OwnI 5 .u8 w5.heap.size _ _ _ := OwnI.new u18 5 .u8 [] s19 (by simp)
          simp only [List.map_nil, List.length_nil] at o19
          have hb19 := (Fx.alloc (fun _ => False) u18 (.cells #[] 5)).blk hb18 (fun h => h)
          generalize u18.alloc (.cells #[] 5) = u19 at *
          refine goE_intro k19 ?_
          simp -implicitDefEqProofs only [go_sem, ↓reduceIte, Nat.reduceEqDiff, Int.reduceLT, Nat.reduceLT, Int.reduceToNat, Int.reducePow, Nat.reduceAdd, Int.reduceEq, Nat.reduceLeDiff, Int.reduceLE]
          have s20 := k19.size
          refine append_own ie8 (by decide) o19 (hr.fx k19 (fun _ _ h => h)) (by rw [List.length_nil]; omega) s20 ?_
          intro v20 u20 o20 f20 _
          rw [List.nil_append] at o20
          have k20 := k19.new f20 (fun k e hk => by have := (o19.lt e).1; omega)
          have hb20 := f20.blk hb19 (fun e => o19.ne hb19 (by decide) e.symm)
          refine goE_intro k20 ?_
          simp -implicitDefEqProofs only [go_sem, ↓reduceIte, Nat.reduceEqDiff, Int.reduceLT, Nat.reduceLT, Int.reduceToNat, Int.reducePow, Nat.reduceAdd, Int.reduceEq, Nat.reduceLeDiff, Int.reduceLE]
          have s21 := k20.size
          refine append_own ie8 (by decide) o20 (hm5.fx k20 (fun _ _ h => h)) (by omega) s21 ?_
          intro v21 u21 o21 f21 _
          have k21 := k20.new f21 (fun k e hk => by have := (o20.lt e).1; omega)
          have hb21 := f21.blk hb20 (fun e => o20.ne hb20 (by decide) e.symm)
          refine goE_intro k21 ?_
          simp -implicitDefEqProofs only [go_sem, ↓reduceIte, Nat.reduceEqDiff, Int.reduceLT, Nat.reduceLT, Int.reduceToNat, Int.reducePow, Nat.reduceAdd, Int.reduceEq, Nat.reduceLeDiff, Int.reduceLE]
          have s22 := k21.size
          obtain ⟨A22, c22, rfl, hc22, hr22⟩ := o21.slice
          obtain ⟨hcm22, he22⟩ := elems_own o21 hbm
          refine (get_msg_calls n0 n1 hc22 hcm22 (he22.mono Nat.zero_lt_one fun k hk _ => hk)).mono ?_
          rw [hmore]
          rintro v u22 ⟨cs22, rfl, hz22, q22⟩
          have k22 := k21.tr q22
          have hb22 := q22.blk hb21 (fun h => h)
          refine goE_intro k22 ?_
          simp -implicitDefEqProofs only [go_sem, ↓reduceIte, Nat.reduceEqDiff, Int.reduceLT, Nat.reduceLT, Int.reduceToNat, Int.reducePow, Nat.reduceAdd, Int.reduceEq, Nat.reduceLeDiff, Int.reduceLE]
          have s23 := k22.size
          obtain ⟨y23, S23, hx23, q23⟩ := store_cells2 hb22 (kMsg.len hz22) (allOne_of (kMsg.one hz22))
          simp -implicitDefEqProofs only [go_sem, ↓reduceIte, Nat.reduceEqDiff, Int.reduceLT, Nat.reduceLT, Int.reduceToNat, Int.reducePow, Nat.reduceAdd, Int.reduceEq, Nat.reduceLeDiff, Int.reduceLE, S23]
          exact hK' _ _ ⟨by simp -implicitDefEqProofs only [go_sem, ↓reduceIte, Nat.reduceEqDiff, Int.reduceLT, Nat.reduceLT, Int.reduceToNat, Int.reducePow, Nat.reduceAdd, Int.reduceEq, Nat.reduceLeDiff, Int.reduceLE, g2], by simp -implicitDefEqProofs only [go_sem, ↓reduceIte, Nat.reduceEqDiff, Int.reduceLT, Nat.reduceLT, Int.reduceToNat, Int.reducePow, Nat.reduceAdd, Int.reduceEq, Nat.reduceLeDiff, Int.reduceLE], k22.new q23 (fun k e hk => by have : k = bxn := e; omega)⟩
    · simp -implicitDefEqProofs only [go_sem, ↓reduceIte, Nat.reduceEqDiff, Int.reduceLT, Nat.reduceLT, Int.reduceToNat, Int.reducePow, Nat.reduceAdd, Int.reduceEq, Nat.reduceLeDiff, Int.reduceLE, h0, h1]
      rw [← hw5]
      refine frs_gen (fun f => f 2 = .slice A2 more.length c2 ∧ f 3 = .pointer (some (At b0 0)) ∧ f 7 = .slice A bs.length c) ⟨by simp -implicitDefEqProofs only [go_sem, ↓reduceIte, Nat.reduceEqDiff, Int.reduceLT, Nat.reduceLT, Int.reduceToNat, Int.reducePow, Nat.reduceAdd, Int.reduceEq, Nat.reduceLeDiff, Int.reduceLE, g2], by simp -implicitDefEqProofs only [go_sem, ↓reduceIte, Nat.reduceEqDiff, Int.reduceLT, Nat.reduceLT, Int.reduceToNat, Int.reducePow, Nat.reduceAdd, Int.reduceEq, Nat.reduceLeDiff, Int.reduceLE, g3], by simp -implicitDefEqProofs only [go_sem, ↓reduceIte, Nat.reduceEqDiff, Int.reduceLT, Nat.reduceLT, Int.reduceToNat, Int.reducePow, Nat.reduceAdd, Int.reduceEq, Nat.reduceLeDiff, Int.reduceLE, g7]⟩ ?_
      rintro f ⟨g2, g3, g7⟩
      have hm5 := hm4.fx k5 (fun _ _ h => h)
      have hr := hr.fx k5 (fun _ _ h => h)
      have hM5 := hM4.keep k5
      have kk5 := kk4.tr k5
      refine frs_cut (T := fun f w' => f 2 = .slice A2 more.length c2 ∧ f 12 = .int .i64 (if more = [] then 0 else 60) ∧ Keep w5 w') ?_ ?_
      · rintro f w6 ⟨g2, g12, k6⟩
        by_cases hm : more = []
        · rw [if_pos hm] at g12
          have hml : more.length = 0 := by rw [hm]; rfl
          have y1 : ((0 : Int) == 60) = false := rfl
          have y2 : ¬ (0 : Int) < (more.length : Int) := by omega
          have y3 : (false == false) = true := rfl
          simp -implicitDefEqProofs only [go_sem, ↓reduceIte, Nat.reduceEqDiff, Int.reduceLT, Nat.reduceLT, Int.reduceToNat, Int.reducePow, Nat.reduceAdd, Int.reduceEq, Nat.reduceLeDiff, Int.reduceLE, g2, g12, y1, y2, y3]
          exact ⟨by first | rfl | trivial, kk5.tr k6⟩
        · rw [if_neg hm] at g12
          have hml : 0 < more.length := List.length_pos_iff.2 hm
          have y1 : ((60 : Int) == 60) = true := rfl
          have y2 : (0 : Int) < (more.length : Int) := by omega
          have y3 : (true == true) = true := rfl
          simp -implicitDefEqProofs only [go_sem, ↓reduceIte, Nat.reduceEqDiff, Int.reduceLT, Nat.reduceLT, Int.reduceToNat, Int.reducePow, Nat.reduceAdd, Int.reduceEq, Nat.reduceLeDiff, Int.reduceLE, g2, g12, y1, y2, y3]
          exact ⟨by first | rfl | trivial, kk5.tr k6⟩
      · intro K' hK'
        have ldk : ∀ w', Keep w5 w' → w'.cell? (At b0 0) = some (.int .u8 x.kind) := fun w' k' => (cell_fx hM5 k' (fun h => h) 0).trans ((cell_fx hM4 k5 (fun h => h) 0).trans hck)
        refine frs_intro (fun wz => Keep w5 wz) (Fx.drew _ _) ?_
        simp -implicitDefEqProofs only [go_sem, ↓reduceIte, Nat.reduceEqDiff, Int.reduceLT, Nat.reduceLT, Int.reduceToNat, Int.reducePow, Nat.reduceAdd, Int.reduceEq, Nat.reduceLeDiff, Int.reduceLE, g2, g3, g7]
        refine hld_intro (.int .u8 x.kind) (Fx.drew _ _) (fun w' k' => by have := ldk w' k'; simp -implicitDefEqProofs only [go_sem, ↓reduceIte, Nat.reduceEqDiff, Int.reduceLT, Nat.reduceLT, Int.reduceToNat, Int.reducePow, Nat.reduceAdd, Int.reduceEq, Nat.reduceLeDiff, Int.reduceLE, this]; exact ⟨trivial, trivial⟩) ?_
        have kd : Keep w5 w5.drew := Fx.drew _ _
        simp -implicitDefEqProofs only [go_sem, ↓reduceIte, Nat.reduceEqDiff, Int.reduceLT, Nat.reduceLT, Int.reduceToNat, Int.reducePow, Nat.reduceAdd, Int.reduceEq, Nat.reduceLeDiff, Int.reduceLE]
        generalize w5.drew = wd at *
        refine frk_intro ?_ ?_
        · simp -implicitDefEqProofs only [go_sem, ↓reduceIte, Nat.reduceEqDiff, Int.reduceLT, Nat.reduceLT, Int.reduceToNat, Int.reducePow, Nat.reduceAdd, Int.reduceEq, Nat.reduceLeDiff, Int.reduceLE]
          have s1 := kd.size
          refine bsl_none et33 ?_
          have k1 : Keep w5 (wd.alloc (.cells #[] 5)) := kd.tr (Fx.alloc _ _ _)
          have o1 : OwnI 5 .u8 w5.heap.size _ _ _ := OwnI.new wd 5 .u8 [] s1 (by simp)
          simp only [List.map_nil, List.length_nil] at o1
          generalize wd.alloc (.cells #[] 5) = u1 at *
          simp -implicitDefEqProofs only [go_sem, ↓reduceIte, Nat.reduceEqDiff, Int.reduceLT, Nat.reduceLT, Int.reduceToNat, Int.reducePow, Nat.reduceAdd, Int.reduceEq, Nat.reduceLeDiff, Int.reduceLE]
          refine shs_intro k1 ?_
          simp -implicitDefEqProofs only [go_sem, ↓reduceIte, Nat.reduceEqDiff, Int.reduceLT, Nat.reduceLT, Int.reduceToNat, Int.reducePow, Nat.reduceAdd, Int.reduceEq, Nat.reduceLeDiff, Int.reduceLE]
          refine frk_intro ?_ ?_
          · simp -implicitDefEqProofs only [go_sem, ↓reduceIte, Nat.reduceEqDiff, Int.reduceLT, Nat.reduceLT, Int.reduceToNat, Int.reducePow, Nat.reduceAdd, Int.reduceEq, Nat.reduceLeDiff, Int.reduceLE]
            have s2 := k1.size
            refine append_own ie8 (by decide) o1 (hr.fx k1 (fun _ _ h => h)) (by rw [List.length_nil]; omega) s2 ?_
            intro v2 u2 o2 f2 _
            rw [List.nil_append] at o2
            have k2 := k1.new f2 (fun k e hk => by have := (o1.lt e).1; omega)
            simp -implicitDefEqProofs only [go_sem, ↓reduceIte, Nat.reduceEqDiff, Int.reduceLT, Nat.reduceLT, Int.reduceToNat, Int.reducePow, Nat.reduceAdd, Int.reduceEq, Nat.reduceLeDiff, Int.reduceLE]
            refine shs_intro k2 ?_
            simp -implicitDefEqProofs only [go_sem, ↓reduceIte, Nat.reduceEqDiff, Int.reduceLT, Nat.reduceLT, Int.reduceToNat, Int.reducePow, Nat.reduceAdd, Int.reduceEq, Nat.reduceLeDiff, Int.reduceLE]
            refine frk_intro ?_ ?_
            · simp -implicitDefEqProofs only [go_sem, ↓reduceIte, Nat.reduceEqDiff, Int.reduceLT, Nat.reduceLT, Int.reduceToNat, Int.reducePow, Nat.reduceAdd, Int.reduceEq, Nat.reduceLeDiff, Int.reduceLE]
              have s3 := k2.size
              refine append_own ie8 (by decide) o2 (hm5.fx k2 (fun _ _ h => h)) (by omega) s3 ?_
              intro v3 u3 o3 f3 _
              have k3 := k2.new f3 (fun k e hk => by have := (o2.lt e).1; omega)
              simp -implicitDefEqProofs only [go_sem, ↓reduceIte, Nat.reduceEqDiff, Int.reduceLT, Nat.reduceLT, Int.reduceToNat, Int.reducePow, Nat.reduceAdd, Int.reduceEq, Nat.reduceLeDiff, Int.reduceLE]
              refine shs_intro k3 ?_
              simp -implicitDefEqProofs only [go_sem, ↓reduceIte, Nat.reduceEqDiff, Int.reduceLT, Nat.reduceLT, Int.reduceToNat, Int.reducePow, Nat.reduceAdd, Int.reduceEq, Nat.reduceLeDiff, Int.reduceLE]
              refine frk_intro ?_ ?_
              · simp -implicitDefEqProofs only [go_sem, ↓reduceIte, Nat.reduceEqDiff, Int.reduceLT, Nat.reduceLT, Int.reduceToNat, Int.reducePow, Nat.reduceAdd, Int.reduceEq, Nat.reduceLeDiff, Int.reduceLE]
                have s4 := k3.size
                obtain ⟨A4, c4, rfl, hc4, hr4⟩ := o3.slice
                obtain ⟨hcm4, he4⟩ := elems_own o3 hbm
                refine (get_msg_calls n0 n1 hc4 hcm4 (he4.mono Nat.zero_lt_one fun k hk _ => hk)).mono ?_
                rw [hmore]
                rintro v u4 ⟨cs4, rfl, hz4, q4⟩
                have k4 := k3.tr q4
                simp -implicitDefEqProofs only [go_sem, ↓reduceIte, Nat.reduceEqDiff, Int.reduceLT, Nat.reduceLT, Int.reduceToNat, Int.reducePow, Nat.reduceAdd, Int.reduceEq, Nat.reduceLeDiff, Int.reduceLE]
                refine shs_intro k4 ?_
                simp -implicitDefEqProofs only [go_sem, ↓reduceIte, Nat.reduceEqDiff, Int.reduceLT, Nat.reduceLT, Int.reduceToNat, Int.reducePow, Nat.reduceAdd, Int.reduceEq, Nat.reduceLeDiff, Int.reduceLE]
                refine goE_intro (k4.tr (Fx.alloc _ _ _)) ?_
                obtain ⟨y5, S5, hx5, q5, _⟩ := store_cells (w := u4) (kMsg.len hz4) (allOne_of (kMsg.one hz4))
                simp -implicitDefEqProofs only [go_sem, ↓reduceIte, Nat.reduceEqDiff, Int.reduceLT, Nat.reduceLT, Int.reduceToNat, Int.reducePow, Nat.reduceAdd, Int.reduceEq, Nat.reduceLeDiff, Int.reduceLE, S5]
                exact hK' _ _ ⟨by simp -implicitDefEqProofs only [go_sem, ↓reduceIte, Nat.reduceEqDiff, Int.reduceLT, Nat.reduceLT, Int.reduceToNat, Int.reducePow, Nat.reduceAdd, Int.reduceEq, Nat.reduceLeDiff, Int.reduceLE, g2], by simp -implicitDefEqProofs only [go_sem, ↓reduceIte, Nat.reduceEqDiff, Int.reduceLT, Nat.reduceLT, Int.reduceToNat, Int.reducePow, Nat.reduceAdd, Int.reduceEq, Nat.reduceLeDiff, Int.reduceLE], k4.tr q5⟩
              · simp -implicitDefEqProofs only [go_sem, ↓reduceIte, Nat.reduceEqDiff, Int.reduceLT, Nat.reduceLT, Int.reduceToNat, Int.reducePow, Nat.reduceAdd, Int.reduceEq, Nat.reduceLeDiff, Int.reduceLE]
                have s6 := k3.size
                have k6 : Keep w5 (u3.alloc (.cells #[.int .u8 0, .int .u32 0, .int .u32 0, .int .u64 0, .int .u8 0, .int .u32 0, .string ⟨#[]⟩, .string ⟨#[]⟩, .int .u8 0, .int .u8 0, .bool false, .int .u8 0, .int .u16 0, .slice none 0 0, .int .u32 0, .slice none 0 0, .int .u16 0, .int .u16 0, .slice none 0 0, .slice none 0 0, .slice none 0 0, .int .u32 0, .int .u32 0, .slice none 0 0, .int .u64 0, .slice none 0 0, .slice none 0 0, .slice none 0 0] 37)) := k3.tr (Fx.alloc _ _ _)
                have hb6 : Blk _ _ _ _ := Blk.new u3 37 #[.int .u8 0, .int .u32 0, .int .u32 0, .int .u64 0, .int .u8 0, .int .u32 0, .string ⟨#[]⟩, .string ⟨#[]⟩, .int .u8 0, .int .u8 0, .bool false, .int .u8 0, .int .u16 0, .slice none 0 0, .int .u32 0, .slice none 0 0, .int .u16 0, .int .u16 0, .slice none 0 0, .slice none 0 0, .slice none 0 0, .int .u32 0, .int .u32 0, .slice none 0 0, .int .u64 0, .slice none 0 0, .slice none 0 0, .slice none 0 0]
                obtain ⟨bxn, hbxn⟩ : ∃ b, b = u3.heap.size := ⟨_, rfl⟩
                rw [← hbxn] at hb6 ⊢
                have ox6 := o3.fx (Fx.alloc (fun _ => False) u3 (.cells #[.int .u8 0, .int .u32 0, .int .u32 0, .int .u64 0, .int .u8 0, .int .u32 0, .string ⟨#[]⟩, .string ⟨#[]⟩, .int .u8 0, .int .u8 0, .bool false, .int .u8 0, .int .u16 0, .slice none 0 0, .int .u32 0, .slice none 0 0, .int .u16 0, .int .u16 0, .slice none 0 0, .slice none 0 0, .slice none 0 0, .int .u32 0, .int .u32 0, .slice none 0 0, .int .u64 0, .slice none 0 0, .slice none 0 0, .slice none 0 0] 37)) (fun _ _ h => h)
                generalize u3.alloc (.cells #[.int .u8 0, .int .u32 0, .int .u32 0, .int .u64 0, .int .u8 0, .int .u32 0, .string ⟨#[]⟩, .string ⟨#[]⟩, .int .u8 0, .int .u8 0, .bool false, .int .u8 0, .int .u16 0, .slice none 0 0, .int .u32 0, .slice none 0 0, .int .u16 0, .int .u16 0, .slice none 0 0, .slice none 0 0, .slice none 0 0, .int .u32 0, .int .u32 0, .slice none 0 0, .int .u64 0, .slice none 0 0, .slice none 0 0, .slice none 0 0] 37) = u6 at *
                refine shs_intro k6 ?_
                simp -implicitDefEqProofs only [go_sem, ↓reduceIte, Nat.reduceEqDiff, Int.reduceLT, Nat.reduceLT, Int.reduceToNat, Int.reducePow, Nat.reduceAdd, Int.reduceEq, Nat.reduceLeDiff, Int.reduceLE]
                have s7 := k6.size
                obtain ⟨A7, c7, rfl, hc7, hr7⟩ := ox6.slice
                obtain ⟨hcm7, he7⟩ := elems_own ox6 hbm
                refine (get_msg_calls n0 n1 hc7 hcm7 (he7.mono Nat.zero_lt_one fun k hk _ => hk)).mono ?_
                rw [hmore]
                rintro v u7 ⟨cs7, rfl, hz7, q7⟩
                have k7 := k6.tr q7
                have hb7 := q7.blk hb6 (fun h => h)
                refine goE_intro k7 ?_
                simp -implicitDefEqProofs only [go_sem, ↓reduceIte, Nat.reduceEqDiff, Int.reduceLT, Nat.reduceLT, Int.reduceToNat, Int.reducePow, Nat.reduceAdd, Int.reduceEq, Nat.reduceLeDiff, Int.reduceLE]
                have s8 := k7.size
                obtain ⟨y8, S8, hx8, q8⟩ := store_cells2 hb7 (kMsg.len hz7) (allOne_of (kMsg.one hz7))
                simp -implicitDefEqProofs only [go_sem, ↓reduceIte, Nat.reduceEqDiff, Int.reduceLT, Nat.reduceLT, Int.reduceToNat, Int.reducePow, Nat.reduceAdd, Int.reduceEq, Nat.reduceLeDiff, Int.reduceLE, S8]
                exact hK' _ _ ⟨by simp -implicitDefEqProofs only [go_sem, ↓reduceIte, Nat.reduceEqDiff, Int.reduceLT, Nat.reduceLT, Int.reduceToNat, Int.reducePow, Nat.reduceAdd, Int.reduceEq, Nat.reduceLeDiff, Int.reduceLE, g2], by simp -implicitDefEqProofs only [go_sem, ↓reduceIte, Nat.reduceEqDiff, Int.reduceLT, Nat.reduceLT, Int.reduceToNat, Int.reducePow, Nat.reduceAdd, Int.reduceEq, Nat.reduceLeDiff, Int.reduceLE], k7.new q8 (fun k e hk => by have : k = bxn := e; omega)⟩
            · simp -implicitDefEqProofs only [go_sem, ↓reduceIte, Nat.reduceEqDiff, Int.reduceLT, Nat.reduceLT, Int.reduceToNat, Int.reducePow, Nat.reduceAdd, Int.reduceEq, Nat.reduceLeDiff, Int.reduceLE]
              have s9 := k2.size
              have k9 : Keep w5 (u2.alloc (.cells #[.int .u8 0, .int .u32 0, .int .u32 0, .int .u64 0, .int .u8 0, .int .u32 0, .string ⟨#[]⟩, .string ⟨#[]⟩, .int .u8 0, .int .u8 0, .bool false, .int .u8 0, .int .u16 0, .slice none 0 0, .int .u32 0, .slice none 0 0, .int .u16 0, .int .u16 0, .slice none 0 0, .slice none 0 0, .slice none 0 0, .int .u32 0, .int .u32 0, .slice none 0 0, .int .u64 0, .slice none 0 0, .slice none 0 0, .slice none 0 0] 37)) := k2.tr (Fx.alloc _ _ _)
              have hb9 : Blk _ _ _ _ := Blk.new u2 37 #[.int .u8 0, .int .u32 0, .int .u32 0, .int .u64 0, .int .u8 0, .int .u32 0, .string ⟨#[]⟩, .string ⟨#[]⟩, .int .u8 0, .int .u8 0, .bool false, .int .u8 0, .int .u16 0, .slice none 0 0, .int .u32 0, .slice none 0 0, .int .u16 0, .int .u16 0, .slice none 0 0, .slice none 0 0, .slice none 0 0, .int .u32 0, .int .u32 0, .slice none 0 0, .int .u64 0, .slice none 0 0, .slice none 0 0, .slice none 0 0]
              obtain ⟨bxn, hbxn⟩ : ∃ b, b = u2.heap.size := ⟨_, rfl⟩
              rw [← hbxn] at hb9 ⊢
              have ox9 := o2.fx (Fx.alloc (fun _ => False) u2 (.cells #[.int .u8 0, .int .u32 0, .int .u32 0, .int .u64 0, .int .u8 0, .int .u32 0, .string ⟨#[]⟩, .string ⟨#[]⟩, .int .u8 0, .int .u8 0, .bool false, .int .u8 0, .int .u16 0, .slice none 0 0, .int .u32 0, .slice none 0 0, .int .u16 0, .int .u16 0, .slice none 0 0, .slice none 0 0, .slice none 0 0, .int .u32 0, .int .u32 0, .slice none 0 0, .int .u64 0, .slice none 0 0, .slice none 0 0, .slice none 0 0] 37)) (fun _ _ h => h)
              generalize u2.alloc (.cells #[.int .u8 0, .int .u32 0, .int .u32 0, .int .u64 0, .int .u8 0, .int .u32 0, .string ⟨#[]⟩, .string ⟨#[]⟩, .int .u8 0, .int .u8 0, .bool false, .int .u8 0, .int .u16 0, .slice none 0 0, .int .u32 0, .slice none 0 0, .int .u16 0, .int .u16 0, .slice none 0 0, .slice none 0 0, .slice none 0 0, .int .u32 0, .int .u32 0, .slice none 0 0, .int .u64 0, .slice none 0 0, .slice none 0 0, .slice none 0 0] 37) = u9 at *
              refine shs_intro k9 ?_
              simp -implicitDefEqProofs only [go_sem, ↓reduceIte, Nat.reduceEqDiff, Int.reduceLT, Nat.reduceLT, Int.reduceToNat, Int.reducePow, Nat.reduceAdd, Int.reduceEq, Nat.reduceLeDiff, Int.reduceLE]
              have s10 := k9.size
              refine append_own ie8 (by decide) ox9 (hm5.fx k9 (fun _ _ h => h)) (by omega) s10 ?_
              intro v10 u10 o10 f10 _
              have k10 := k9.new f10 (fun k e hk => by have := (ox9.lt e).1; omega)
              have hb10 := f10.blk hb9 (fun e => ox9.ne hb9 (by decide) e.symm)
              refine goE_intro k10 ?_
              simp -implicitDefEqProofs only [go_sem, ↓reduceIte, Nat.reduceEqDiff, Int.reduceLT, Nat.reduceLT, Int.reduceToNat, Int.reducePow, Nat.reduceAdd, Int.reduceEq, Nat.reduceLeDiff, Int.reduceLE]
              have s11 := k10.size
              obtain ⟨A11, c11, rfl, hc11, hr11⟩ := o10.slice
              obtain ⟨hcm11, he11⟩ := elems_own o10 hbm
              refine (get_msg_calls n0 n1 hc11 hcm11 (he11.mono Nat.zero_lt_one fun k hk _ => hk)).mono ?_
              rw [hmore]
              rintro v u11 ⟨cs11, rfl, hz11, q11⟩
              have k11 := k10.tr q11
              have hb11 := q11.blk hb10 (fun h => h)
              refine goE_intro k11 ?_
              simp -implicitDefEqProofs only [go_sem, ↓reduceIte, Nat.reduceEqDiff, Int.reduceLT, Nat.reduceLT, Int.reduceToNat, Int.reducePow, Nat.reduceAdd, Int.reduceEq, Nat.reduceLeDiff, Int.reduceLE]
              have s12 := k11.size
              obtain ⟨y12, S12, hx12, q12⟩ := store_cells2 hb11 (kMsg.len hz11) (allOne_of (kMsg.one hz11))
              simp -implicitDefEqProofs only [go_sem, ↓reduceIte, Nat.reduceEqDiff, Int.reduceLT, Nat.reduceLT, Int.reduceToNat, Int.reducePow, Nat.reduceAdd, Int.reduceEq, Nat.reduceLeDiff, Int.reduceLE, S12]
              exact hK' _ _ ⟨by simp -implicitDefEqProofs only [go_sem, ↓reduceIte, Nat.reduceEqDiff, Int.reduceLT, Nat.reduceLT, Int.reduceToNat, Int.reducePow, Nat.reduceAdd, Int.reduceEq, Nat.reduceLeDiff, Int.reduceLE, g2], by simp -implicitDefEqProofs only [go_sem, ↓reduceIte, Nat.reduceEqDiff, Int.reduceLT, Nat.reduceLT, Int.reduceToNat, Int.reducePow, Nat.reduceAdd, Int.reduceEq, Nat.reduceLeDiff, Int.reduceLE], k11.new q12 (fun k e hk => by have : k = bxn := e; omega)⟩
          · simp -implicitDefEqProofs only [go_sem, ↓reduceIte, Nat.reduceEqDiff, Int.reduceLT, Nat.reduceLT, Int.reduceToNat, Int.reducePow, Nat.reduceAdd, Int.reduceEq, Nat.reduceLeDiff, Int.reduceLE]
            have s13 := k1.size
            have k13 : Keep w5 (u1.alloc (.cells #[.int .u8 0, .int .u32 0, .int .u32 0, .int .u64 0, .int .u8 0, .int .u32 0, .string ⟨#[]⟩, .string ⟨#[]⟩, .int .u8 0, .int .u8 0, .bool false, .int .u8 0, .int .u16 0, .slice none 0 0, .int .u32 0, .slice none 0 0, .int .u16 0, .int .u16 0, .slice none 0 0, .slice none 0 0, .slice none 0 0, .int .u32 0, .int .u32 0, .slice none 0 0, .int .u64 0, .slice none 0 0, .slice none 0 0, .slice none 0 0] 37)) := k1.tr (Fx.alloc _ _ _)
            have hb13 : Blk _ _ _ _ := Blk.new u1 37 #[.int .u8 0, .int .u32 0, .int .u32 0, .int .u64 0, .int .u8 0, .int .u32 0, .string ⟨#[]⟩, .string ⟨#[]⟩, .int .u8 0, .int .u8 0, .bool false, .int .u8 0, .int .u16 0, .slice none 0 0, .int .u32 0, .slice none 0 0, .int .u16 0, .int .u16 0, .slice none 0 0, .slice none 0 0, .slice none 0 0, .int .u32 0, .int .u32 0, .slice none 0 0, .int .u64 0, .slice none 0 0, .slice none 0 0, .slice none 0 0]
            obtain ⟨bxn, hbxn⟩ : ∃ b, b = u1.heap.size := ⟨_, rfl⟩
            rw [← hbxn] at hb13 ⊢
            have ox13 := o1.fx (Fx.alloc (fun _ => False) u1 (.cells #[.int .u8 0, .int .u32 0, .int .u32 0, .int .u64 0, .int .u8 0, .int .u32 0, .string ⟨#[]⟩, .string ⟨#[]⟩, .int .u8 0, .int .u8 0, .bool false, .int .u8 0, .int .u16 0, .slice none 0 0, .int .u32 0, .slice none 0 0, .int .u16 0, .int .u16 0, .slice none 0 0, .slice none 0 0, .slice none 0 0, .int .u32 0, .int .u32 0, .slice none 0 0, .int .u64 0, .slice none 0 0, .slice none 0 0, .slice none 0 0] 37)) (fun _ _ h => h)
            generalize u1.alloc (.cells #[.int .u8 0, .int .u32 0, .int .u32 0, .int .u64 0, .int .u8 0, .int .u32 0, .string ⟨#[]⟩, .string ⟨#[]⟩, .int .u8 0, .int .u8 0, .bool false, .int .u8 0, .int .u16 0, .slice none 0 0, .int .u32 0, .slice none 0 0, .int .u16 0, .int .u16 0, .slice none 0 0, .slice none 0 0, .slice none 0 0, .int .u32 0, .int .u32 0, .slice none 0 0, .int .u64 0, .slice none 0 0, .slice none 0 0, .slice none 0 0] 37) = u13 at *
            refine shs_intro k13 ?_
            simp -implicitDefEqProofs only [go_sem, ↓reduceIte, Nat.reduceEqDiff, Int.reduceLT, Nat.reduceLT, Int.reduceToNat, Int.reducePow, Nat.reduceAdd, Int.reduceEq, Nat.reduceLeDiff, Int.reduceLE]
            have s14 := k13.size
            refine append_own ie8 (by decide) ox13 (hr.fx k13 (fun _ _ h => h)) (by rw [List.length_nil]; omega) s14 ?_
            intro v14 u14 o14 f14 _
            rw [List.nil_append] at o14
            have k14 := k13.new f14 (fun k e hk => by have := (ox13.lt e).1; omega)
            have hb14 := f14.blk hb13 (fun e => ox13.ne hb13 (by decide) e.symm)
            refine goE_intro k14 ?_
            simp -implicitDefEqProofs only [go_sem, ↓reduceIte, Nat.reduceEqDiff, Int.reduceLT, Nat.reduceLT, Int.reduceToNat, Int.reducePow, Nat.reduceAdd, Int.reduceEq, Nat.reduceLeDiff, Int.reduceLE]
            have s15 := k14.size
            refine append_own ie8 (by decide) o14 (hm5.fx k14 (fun _ _ h => h)) (by omega) s15 ?_
            intro v15 u15 o15 f15 _
            have k15 := k14.new f15 (fun k e hk => by have := (o14.lt e).1; omega)
            have hb15 := f15.blk hb14 (fun e => o14.ne hb14 (by decide) e.symm)
            refine goE_intro k15 ?_
            simp -implicitDefEqProofs only [go_sem, ↓reduceIte, Nat.reduceEqDiff, Int.reduceLT, Nat.reduceLT, Int.reduceToNat, Int.reducePow, Nat.reduceAdd, Int.reduceEq, Nat.reduceLeDiff, Int.reduceLE]
            have s16 := k15.size
            obtain ⟨A16, c16, rfl, hc16, hr16⟩ := o15.slice
            obtain ⟨hcm16, he16⟩ := elems_own o15 hbm
            refine (get_msg_calls n0 n1 hc16 hcm16 (he16.mono Nat.zero_lt_one fun k hk _ => hk)).mono ?_
            rw [hmore]
            rintro v u16 ⟨cs16, rfl, hz16, q16⟩
            have k16 := k15.tr q16
            have hb16 := q16.blk hb15 (fun h => h)
            refine goE_intro k16 ?_
            simp -implicitDefEqProofs only [go_sem, ↓reduceIte, Nat.reduceEqDiff, Int.reduceLT, Nat.reduceLT, Int.reduceToNat, Int.reducePow, Nat.reduceAdd, Int.reduceEq, Nat.reduceLeDiff, Int.reduceLE]
            have s17 := k16.size
            obtain ⟨y17, S17, hx17, q17⟩ := store_cells2 hb16 (kMsg.len hz16) (allOne_of (kMsg.one hz16))
            simp -implicitDefEqProofs only [go_sem, ↓reduceIte, Nat.reduceEqDiff, Int.reduceLT, Nat.reduceLT, Int.reduceToNat, Int.reducePow, Nat.reduceAdd, Int.reduceEq, Nat.reduceLeDiff, Int.reduceLE, S17]
            exact hK' _ _ ⟨by simp -implicitDefEqProofs only [go_sem, ↓reduceIte, Nat.reduceEqDiff, Int.reduceLT, Nat.reduceLT, Int.reduceToNat, Int.reducePow, Nat.reduceAdd, Int.reduceEq, Nat.reduceLeDiff, Int.reduceLE, g2], by simp -implicitDefEqProofs only [go_sem, ↓reduceIte, Nat.reduceEqDiff, Int.reduceLT, Nat.reduceLT, Int.reduceToNat, Int.reducePow, Nat.reduceAdd, Int.reduceEq, Nat.reduceLeDiff, Int.reduceLE], k16.new q17 (fun k e hk => by have : k = bxn := e; omega)⟩
        · simp -implicitDefEqProofs only [go_sem, ↓reduceIte, Nat.reduceEqDiff, Int.reduceLT, Nat.reduceLT, Int.reduceToNat, Int.reducePow, Nat.reduceAdd, Int.reduceEq, Nat.reduceLeDiff, Int.reduceLE]
          have s18 := kd.size
          have k18 : Keep w5 (wd.alloc (.cells #[.int .u8 0, .int .u32 0, .int .u32 0, .int .u64 0, .int .u8 0, .int .u32 0, .string ⟨#[]⟩, .string ⟨#[]⟩, .int .u8 0, .int .u8 0, .bool false, .int .u8 0, .int .u16 0, .slice none 0 0, .int .u32 0, .slice none 0 0, .int .u16 0, .int .u16 0, .slice none 0 0, .slice none 0 0, .slice none 0 0, .int .u32 0, .int .u32 0, .slice none 0 0, .int .u64 0, .slice none 0 0, .slice none 0 0, .slice none 0 0] 37)) := kd.tr (Fx.alloc _ _ _)
          have hb18 : Blk _ _ _ _ := Blk.new wd 37 #[.int .u8 0, .int .u32 0, .int .u32 0, .int .u64 0, .int .u8 0, .int .u32 0, .string ⟨#[]⟩, .string ⟨#[]⟩, .int .u8 0, .int .u8 0, .bool false, .int .u8 0, .int .u16 0, .slice none 0 0, .int .u32 0, .slice none 0 0, .int .u16 0, .int .u16 0, .slice none 0 0, .slice none 0 0, .slice none 0 0, .int .u32 0, .int .u32 0, .slice none 0 0, .int .u64 0, .slice none 0 0, .slice none 0 0, .slice none 0 0]
          obtain ⟨bxn, hbxn⟩ : ∃ b, b = wd.heap.size := ⟨_, rfl⟩
          rw [← hbxn] at hb18 ⊢
          generalize wd.alloc (.cells #[.int .u8 0, .int .u32 0, .int .u32 0, .int .u64 0, .int .u8 0, .int .u32 0, .string ⟨#[]⟩, .string ⟨#[]⟩, .int .u8 0, .int .u8 0, .bool false, .int .u8 0, .int .u16 0, .slice none 0 0, .int .u32 0, .slice none 0 0, .int .u16 0, .int .u16 0, .slice none 0 0, .slice none 0 0, .slice none 0 0, .int .u32 0, .int .u32 0, .slice none 0 0, .int .u64 0, .slice none 0 0, .slice none 0 0, .slice none 0 0] 37) = u18 at *
          refine shs_intro k18 ?_
          simp -implicitDefEqProofs only [go_sem, ↓reduceIte, Nat.reduceEqDiff, Int.reduceLT, Nat.reduceLT, Int.reduceToNat, Int.reducePow, Nat.reduceAdd, Int.reduceEq, Nat.reduceLeDiff, Int.reduceLE]
          have s19 := k18.size
          refine bsl_none et33 ?_
          have k19 : Keep w5 (u18.alloc (.cells #[] 5)) := k18.tr (Fx.alloc _ _ _)
          have o19 : OwnI 5 .u8 w5.heap.size _ _ _ := OwnI.new u18 5 .u8 [] s19 (by simp)
          simp only [List.map_nil, List.length_nil] at o19
          have hb19 := (Fx.alloc (fun _ => False) u18 (.cells #[] 5)).blk hb18 (fun h => h)
          generalize u18.alloc (.cells #[] 5) = u19 at *
          refine goE_intro k19 ?_
          simp -implicitDefEqProofs only [go_sem, ↓reduceIte, Nat.reduceEqDiff, Int.reduceLT, Nat.reduceLT, Int.reduceToNat, Int.reducePow, Nat.reduceAdd, Int.reduceEq, Nat.reduceLeDiff, Int.reduceLE]
          have s20 := k19.size
          refine append_own ie8 (by decide) o19 (hr.fx k19 (fun _ _ h => h)) (by rw [List.length_nil]; omega) s20 ?_
          intro v20 u20 o20 f20 _
          rw [List.nil_append] at o20
          have k20 := k19.new f20 (fun k e hk => by have := (o19.lt e).1; omega)
          have hb20 := f20.blk hb19 (fun e => o19.ne hb19 (by decide) e.symm)
          refine goE_intro k20 ?_
          simp -implicitDefEqProofs only [go_sem, ↓reduceIte, Nat.reduceEqDiff, Int.reduceLT, Nat.reduceLT, Int.reduceToNat, Int.reducePow, Nat.reduceAdd, Int.reduceEq, Nat.reduceLeDiff, Int.reduceLE]
          have s21 := k20.size
          refine append_own ie8 (by decide) o20 (hm5.fx k20 (fun _ _ h => h)) (by omega) s21 ?_
          intro v21 u21 o21 f21 _
          have k21 := k20.new f21 (fun k e hk => by have := (o20.lt e).1; omega)
          have hb21 := f21.blk hb20 (fun e => o20.ne hb20 (by decide) e.symm)
          refine goE_intro k21 ?_
          simp -implicitDefEqProofs only [go_sem, ↓reduceIte, Nat.reduceEqDiff, Int.reduceLT, Nat.reduceLT, Int.reduceToNat, Int.reducePow, Nat.reduceAdd, Int.reduceEq, Nat.reduceLeDiff, Int.reduceLE]
          have s22 := k21.size
          obtain ⟨A22, c22, rfl, hc22, hr22⟩ := o21.slice
          obtain ⟨hcm22, he22⟩ := elems_own o21 hbm
          refine (get_msg_calls n0 n1 hc22 hcm22 (he22.mono Nat.zero_lt_one fun k hk _ => hk)).mono ?_
          rw [hmore]
          rintro v u22 ⟨cs22, rfl, hz22, q22⟩
          have k22 := k21.tr q22
          have hb22 := q22.blk hb21 (fun h => h)
          refine goE_intro k22 ?_
          simp -implicitDefEqProofs only [go_sem, ↓reduceIte, Nat.reduceEqDiff, Int.reduceLT, Nat.reduceLT, Int.reduceToNat, Int.reducePow, Nat.reduceAdd, Int.reduceEq, Nat.reduceLeDiff, Int.reduceLE]
          have s23 := k22.size
          obtain ⟨y23, S23, hx23, q23⟩ := store_cells2 hb22 (kMsg.len hz22) (allOne_of (kMsg.one hz22))
          simp -implicitDefEqProofs only [go_sem, ↓reduceIte, Nat.reduceEqDiff, Int.reduceLT, Nat.reduceLT, Int.reduceToNat, Int.reducePow, Nat.reduceAdd, Int.reduceEq, Nat.reduceLeDiff, Int.reduceLE, S23]
          exact hK' _ _ ⟨by simp -implicitDefEqProofs only [go_sem, ↓reduceIte, Nat.reduceEqDiff, Int.reduceLT, Nat.reduceLT, Int.reduceToNat, Int.reducePow, Nat.reduceAdd, Int.reduceEq, Nat.reduceLeDiff, Int.reduceLE, g2], by simp -implicitDefEqProofs only [go_sem, ↓reduceIte, Nat.reduceEqDiff, Int.reduceLT, Nat.reduceLT, Int.reduceToNat, Int.reducePow, Nat.reduceAdd, Int.reduceEq, Nat.reduceLeDiff, Int.reduceLE], k22.new q23 (fun k e hk => by have : k = bxn := e; omega)⟩
end Go.Proofs.Ytnoeeiaffnbhcaa.F
