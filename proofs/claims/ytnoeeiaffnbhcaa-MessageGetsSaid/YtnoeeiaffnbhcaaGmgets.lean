/- The law that what any bytes are read as is the document's, and is written as these bytes. Conditions: those of its row. -/
import Derived.Test.YtnoeeiaffnbhcaaGmlive
import Derived.Test.YtnoeeiaffnbhcaaGputeq
import Derived.Test.YtnoeeiaffnbhcaaGmsame
import Derived.Test.YtnoeeiaffnbhcaaGrefread
namespace Go.Proofs.Ytnoeeiaffnbhcaa.F
open Go.RowKit Go.Proofs.Ytnoeeiaffnbhcaa.M Go.Proofs.Ytnoeeiaffnbhcaa.V
set_option linter.unusedSimpArgs false
set_option linter.unusedVariables false
set_option maxRecDepth 20000
theorem set_kind {f : Int} (hf : f ∈ letters) (y : (fc f).β) (x : Msg) : ((fc f).set y x).kind = x.kind := by
  revert y
  rcases letters_cases hf with rfl | rfl | rfl | rfl | rfl | rfl | rfl | rfl | rfl | rfl | rfl | rfl | rfl | rfl | rfl | rfl | rfl | rfl | rfl | rfl <;> (intro y; rfl)
theorem get_stay : ∀ (l : List Int) (m : Msg) (s : RS), (∀ f ∈ l, f ∈ letters) → s.why ≠ 0 → (getFold l (m, s)).2 = s
  | [], m, s, _, _ => rfl
  | f :: l, m, s, hl, hs => by
    show (getFold l (rfieldP f (m, s))).2 = s
    rw [rfield_fc (hl f (by simp)), (fc f).c.stay s hs]
    exact get_stay l _ s (fun g h => hl g (by simp [h])) hs
theorem get_was : ∀ (l : List Int) (m : Msg) (b : List Int), (∀ f ∈ l, f ∈ letters) → l.Nodup → Bs b → (getFold l (m, ⟨b, 0⟩)).2.why = 0 →
    OkAll l (getFold l (m, ⟨b, 0⟩)).1 ∧ b = encAll l (getFold l (m, ⟨b, 0⟩)).1 ++ (getFold l (m, ⟨b, 0⟩)).2.b ∧ copyAll l (getFold l (m, ⟨b, 0⟩)).1 m = (getFold l (m, ⟨b, 0⟩)).1 ∧
    (∀ g ∈ letters, g ∉ l → (fc g).get (getFold l (m, ⟨b, 0⟩)).1 = (fc g).get m) ∧ (getFold l (m, ⟨b, 0⟩)).1.kind = m.kind
  | [], m, b, _, _, _, _ => ⟨fun f hf => by simp at hf, rfl, rfl, fun _ _ _ => rfl, rfl⟩
  | f :: l, m, b, hl, hn, hb, hw => by
    have hf := hl f (by simp)
    have hl' : ∀ g ∈ l, g ∈ letters := fun g h => hl g (by simp [h])
    rw [List.nodup_cons] at hn
    have e : getFold (f :: l) (m, ⟨b, 0⟩) = getFold l ((fc f).set ((fc f).c.rd ⟨b, 0⟩).1 m, ((fc f).c.rd ⟨b, 0⟩).2) := by
      show getFold l (rfieldP f (m, ⟨b, 0⟩)) = _
      rw [rfield_fc hf]
    rw [e] at hw ⊢
    have hz : ((fc f).c.rd ⟨b, 0⟩).2.why = 0 := by
      by_cases h : ((fc f).c.rd ⟨b, 0⟩).2.why = 0
      · exact h
      · rw [get_stay l _ _ hl' h] at hw; exact hw
    obtain ⟨w1, w2⟩ := (fc f).c.was b hb hz
    have hr := (fc f).c.rest hb hz
    rw [at_zero hz] at hw ⊢
    obtain ⟨i1, i2, i3, i4, i5⟩ := get_was l ((fc f).set ((fc f).c.rd ⟨b, 0⟩).1 m) ((fc f).c.rd ⟨b, 0⟩).2.b hl' hn.2 hr hw
    have hg := i4 f hf hn.1
    rw [get_set hf] at hg
    refine ⟨fun g h => ?_, ?_, ?_, fun g hgl hgn => ?_, ?_⟩
    · rcases List.mem_cons.1 h with rfl | h
      · rw [hg]; exact w1
      · exact i1 g h
    · show b = ((fc f).c.wr _ ++ encAll l _) ++ _
      rw [hg, List.append_assoc, ← i2]
      exact w2
    · show copyAll l _ ((fc f).set ((fc f).get _) m) = _
      rw [hg]; exact i3
    · rw [i4 g hgl (fun h => hgn (List.mem_cons_of_mem _ h)), get_other hgl hf (fun h => hgn (h ▸ List.mem_cons_self ..))]
    · rw [i5, set_kind hf]
/-- What is read without an error is written as these bytes. -/
theorem getMsg_was {kind : Int} {b : List Int} (hb : Bs b) (h : (getMsg kind b).2 = 0) (hR : RMsg (getMsg kind b).1) : PutOk (getMsg kind b).1 ∧ (putMsg (getMsg kind b).1).2.b = b := by
  unfold getMsg at h hR ⊢
  cases hf : form kind with
  | none => rw [hf] at h; cases h
  | some l =>
    rw [hf] at h hR
    simp only at h hR ⊢
    by_cases hz : (rend (getFold (nums l) (zMsg kind, ⟨b, 0⟩)).2).why = 0
    · rw [if_pos hz] at hR ⊢
      simp only at hR ⊢
      have hw : (getFold (nums l) (zMsg kind, ⟨b, 0⟩)).2.why = 0 ∧ (getFold (nums l) (zMsg kind, ⟨b, 0⟩)).2.b = [] := by
        unfold rend at hz
        split at hz
        · cases hz
        · rename_i hne
          exact ⟨hz, Classical.byContradiction fun h => hne ⟨h, hz⟩⟩
      obtain ⟨i1, i2, i3, _, i5⟩ := get_was (nums l) (zMsg kind) b (form_ok hf).2 (form_nodup hf) hb hw.1
      generalize (getFold (nums l) (zMsg kind, ⟨b, 0⟩)).1 = x at *
      have hk : x.kind = kind := i5
      subst hk
      have ho : x = onlyMsg x := by unfold onlyMsg; rw [hf]; exact i3.symm
      have hp := (putOk_iff hR hf).2 ⟨ho, i1⟩
      refine ⟨hp, ?_⟩
      rw [put_bytes hR hf hp, i2, hw.2, List.append_nil]
    · rw [if_neg hz] at h
      exact absurd h hz
theorem gets_walk {w : World} {kind : Int} {A : Option Addr} {c : Nat} {b : List Int} (hk : 0 ≤ kind ∧ kind ≤ 255) (hl : b.length ≤ c) (hc : c ≤ maxLen) (he : Elems (Kind.int .u8) (fun k => k < w.heap.size) w A b) :
    callK Try.prog 4 #[.int .u8 kind, .slice A b.length c] w fun v w' => v = .bool true ∧ Keep w w' := by
  refine callK_of Try.func4 c4 r4 (by exact Nat.le_of_ble_eq_true rfl) ?_
  rw [m4]
  simp -implicitDefEqProofs only [go_sem, ↓reduceIte, Nat.reduceEqDiff, Int.reduceLT, Nat.reduceLT, Int.reduceToNat, Int.reducePow, Nat.reduceAdd, Int.reduceEq, Nat.reduceLeDiff, Int.reduceLE]
  refine (alive_calls w).mono ?_
  rintro v w2 ⟨rfl, k2⟩
  by_cases hbig : (20000 : Int) < (b.length : Int)
  · simp -implicitDefEqProofs only [go_sem, ↓reduceIte, Nat.reduceEqDiff, Int.reduceLT, Nat.reduceLT, Int.reduceToNat, Int.reducePow, Nat.reduceAdd, Int.reduceEq, Nat.reduceLeDiff, Int.reduceLE, hbig]
    exact ⟨trivial, k2⟩
  have hbs := he.bs
  simp -implicitDefEqProofs only [go_sem, ↓reduceIte, Nat.reduceEqDiff, Int.reduceLT, Nat.reduceLT, Int.reduceToNat, Int.reducePow, Nat.reduceAdd, Int.reduceEq, Nat.reduceLeDiff, Int.reduceLE, hbig]
  refine (get_msg_calls hk.1 hk.2 hl hc ((he.keep k2).mono Nat.zero_lt_one fun k hk _ => hk)).mono ?_
  rintro v w3 ⟨cs3, rfl, hr3, k3⟩
  obtain ⟨w4, S4, hM4, k4, s4⟩ := store_msg hr3
  have kk4 := (k2.tr k3).tr k4
  simp -implicitDefEqProofs only [go_sem, ↓reduceIte, Nat.reduceEqDiff, Int.reduceLT, Nat.reduceLT, Int.reduceToNat, Int.reducePow, Nat.reduceAdd, Int.reduceEq, Nat.reduceLeDiff, Int.reduceLE, S4]
  refine (refRead_calls hk.1 hk.2 hl hc ((he.keep kk4).mono Nat.zero_lt_one fun k hk _ => hk)).mono ?_
  rintro v w5 ⟨cs5, rfl, hr5, k5⟩
  obtain ⟨w6, S6, hM6, k6, s6⟩ := store_msg hr5
  have kk6 := (kk4.tr k5).tr k6
  have hM46 := (hM4.keep k5).keep k6
  obtain ⟨ca, lda, hra⟩ := msg_load hM46
  obtain ⟨cb, ldb, hrb⟩ := msg_load hM6
  have z1 : ((getMsg kind b).2 != (getMsg kind b).2) = false := by simp
  simp -implicitDefEqProofs only [go_sem, ↓reduceIte, Nat.reduceEqDiff, Int.reduceLT, Nat.reduceLT, Int.reduceToNat, Int.reducePow, Nat.reduceAdd, Int.reduceEq, Nat.reduceLeDiff, Int.reduceLE, S6, z1, lda, ldb]
  refine (same_calls hra hrb).mono ?_
  rintro v w7 ⟨⟨q, rfl, hqq⟩, k7⟩
  have hq1 : q = true := hqq.2 rfl
  subst hq1
  have hM7 := hM46.keep k7
  have kk7 := kk6.tr k7
  obtain ⟨cc, ldc, hrc⟩ := msg_load hM7
  simp -implicitDefEqProofs only [go_sem, ↓reduceIte, Nat.reduceEqDiff, Int.reduceLT, Nat.reduceLT, Int.reduceToNat, Int.reducePow, Nat.reduceAdd, Int.reduceEq, Nat.reduceLeDiff, Int.reduceLE, ldc]
  refine (put_msg_calls (kMsg.mono hrc fun k hk _ => hk)).mono ?_
  rintro v w8 ⟨hv, k8⟩
  have kk8 := kk7.tr k8
  by_cases h0 : (getMsg kind b).2 = 0
  · obtain ⟨hp, hby⟩ := getMsg_was hbs h0 (rmsg_of hrc)
    rcases hv with ⟨hno, _⟩ | ⟨_, v1, rfl, ho⟩
    · exact absurd hp hno
    rw [hby] at ho
    obtain ⟨A1, c1, rfl, hc1, hr1⟩ := ho.slice
    have z2 : ((getMsg kind b).2 != 0) = false := by simp [h0]
    simp -implicitDefEqProofs only [go_sem, ↓reduceIte, Nat.reduceEqDiff, Int.reduceLT, Nat.reduceLT, Int.reduceToNat, Int.reducePow, Nat.reduceAdd, Int.reduceEq, Nat.reduceLeDiff, Int.reduceLE, z2]
    refine cv_bytes bs8 hr1 ?_
    simp -implicitDefEqProofs only [go_sem, ↓reduceIte, Nat.reduceEqDiff, Int.reduceLT, Nat.reduceLT, Int.reduceToNat, Int.reducePow, Nat.reduceAdd, Int.reduceEq, Nat.reduceLeDiff, Int.reduceLE]
    refine cv_bytes bs8 (he.keep kk8).rd ?_
    have z3 : ((strOfNums b).toList == (strOfNums b).toList) = true := beq_self_eq_true _
    simp -implicitDefEqProofs only [go_sem, ↓reduceIte, Nat.reduceEqDiff, Int.reduceLT, Nat.reduceLT, Int.reduceToNat, Int.reducePow, Nat.reduceAdd, Int.reduceEq, Nat.reduceLeDiff, Int.reduceLE, z3]
    exact ⟨trivial, kk8⟩
  · have z2 : ((getMsg kind b).2 != 0) = true := by simp [h0]
    rcases hv with ⟨_, rfl⟩ | ⟨_, v1, rfl, ho⟩
    all_goals
      simp -implicitDefEqProofs only [go_sem, ↓reduceIte, Nat.reduceEqDiff, Int.reduceLT, Nat.reduceLT, Int.reduceToNat, Int.reducePow, Nat.reduceAdd, Int.reduceEq, Nat.reduceLeDiff, Int.reduceLE, z2]
      exact ⟨trivial, kk8⟩
end Go.Proofs.Ytnoeeiaffnbhcaa.F
