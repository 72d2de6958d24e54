/- The law that changes written, and read, are the document's. Conditions: those of its row. -/
import Derived.Test.YtnoeeiaffnbhcaaGmlive
import Derived.Test.YtnoeeiaffnbhcaaGrefw
import Derived.Test.YtnoeeiaffnbhcaaGrefl
import Derived.Test.YtnoeeiaffnbhcaaGgreat
namespace Go.Proofs.Ytnoeeiaffnbhcaa.F
open Go.RowKit Go.Proofs.Ytnoeeiaffnbhcaa.M Go.Proofs.Ytnoeeiaffnbhcaa.V
set_option linter.unusedSimpArgs false
set_option linter.unusedVariables false
set_option maxRecDepth 20000
theorem get_put {l : List MChange} (hR : ∀ x ∈ l, RChange x) (h : (putChanges l).bad = false) : getChanges (putChanges l).b = (l, 0) ∧ Bs (putChanges l).b ∧ (putChanges l).b = cchanges.wr l := by
  have hok := (wr_changes.bad l ⟨[], false⟩ hR).1 h
  have e : (putChanges l).b = cchanges.wr l := by
    have := wr_changes.b l ⟨[], false⟩ hR h
    rw [List.nil_append] at this
    exact this
  refine ⟨?_, by rw [e]; exact cchanges.bs l hok.2, e⟩
  rw [e]
  have hb := cchanges.back l [] hok.2
  rw [List.append_nil, cchanges_rd] at hb
  unfold getChanges
  rw [hb]
  simp [rend]
theorem changes_walk {w : World} {A B : Option Addr} {l : List MChange} {b : List Int} {c d : Nat} (hl : l.length ≤ c) (hc : c ≤ maxLen) (he : Elems kChange (fun k => k < w.heap.size) w A l)
    (hl2 : b.length ≤ d) (hc2 : d ≤ maxLen) (he2 : Elems (Kind.int .u8) (fun k => k < w.heap.size) w B b) :
    callK Try.prog 9 #[.slice A l.length c, .slice B b.length d] w fun v w' => v = .bool true ∧ Keep w w' := by
  refine callK_of Try.func9 c9 r9 (by exact Nat.le_of_ble_eq_true rfl) ?_
  rw [m9]
  have hlm : l.length ≤ 9223372036854775807 := by simp only [maxLen] at hc; omega
  simp -implicitDefEqProofs only [go_sem, ↓reduceIte, Nat.reduceEqDiff, Int.reduceLT, Nat.reduceLT, Int.reduceToNat, Int.reducePow, Nat.reduceAdd, Int.reduceEq, Nat.reduceLeDiff, Int.reduceLE]
  refine (alive_calls w).mono ?_
  rintro v w1 ⟨rfl, k1⟩
  simp -implicitDefEqProofs only [go_sem, ↓reduceIte, Nat.reduceEqDiff, Int.reduceLT, Nat.reduceLT, Int.reduceToNat, Int.reducePow, Nat.reduceAdd, Int.reduceEq, Nat.reduceLeDiff, Int.reduceLE]
  refine (greatChanges_calls hlm (he.keep k1)).mono ?_
  rintro v w2 ⟨⟨q, rfl⟩, rfl⟩
  cases q with
  | true =>
    simp -implicitDefEqProofs only [go_sem, ↓reduceIte, Nat.reduceEqDiff, Int.reduceLT, Nat.reduceLT, Int.reduceToNat, Int.reducePow, Nat.reduceAdd, Int.reduceEq, Nat.reduceLeDiff, Int.reduceLE]
    exact ⟨trivial, k1⟩
  | false =>
  by_cases h400 : (400 : Int) < (l.length : Int)
  · simp -implicitDefEqProofs only [go_sem, ↓reduceIte, Nat.reduceEqDiff, Int.reduceLT, Nat.reduceLT, Int.reduceToNat, Int.reducePow, Nat.reduceAdd, Int.reduceEq, Nat.reduceLeDiff, Int.reduceLE, h400]
    exact ⟨trivial, k1⟩
  by_cases h2 : (20000 : Int) < (b.length : Int)
  · simp -implicitDefEqProofs only [go_sem, ↓reduceIte, Nat.reduceEqDiff, Int.reduceLT, Nat.reduceLT, Int.reduceToNat, Int.reducePow, Nat.reduceAdd, Int.reduceEq, Nat.reduceLeDiff, Int.reduceLE, h400, h2]
    exact ⟨trivial, k1⟩
  simp -implicitDefEqProofs only [go_sem, ↓reduceIte, Nat.reduceEqDiff, Int.reduceLT, Nat.reduceLT, Int.reduceToNat, Int.reducePow, Nat.reduceAdd, Int.reduceEq, Nat.reduceLeDiff, Int.reduceLE, h400, h2]
  have s1 := k1.size
  refine (putChanges_calls hl hc ((he.keep k1).mono (Nat.succ_pos 3) fun k hk _ => hk)).mono ?_
  rintro v w3 ⟨k3, hbad, hgood⟩
  have kk3 := k1.tr k3
  have s3 := k3.size
  have hR := changes_range he
  have hiff := wr_changes.bad l ⟨[], false⟩ hR
  have hpc : wchanges l ⟨[], false⟩ = putChanges l := rfl
  rw [hpc] at hiff
  have href := refchanges_calls (w := w3) (lo := w3.heap.size) (xs := []) (A := A) (c := c) hlm (he.keep kk3) (fun k hk => by have := kk3.size; omega) (OwnI.nil _ _ _ _) (Nat.le_refl _) (by unfold top; simp)
  cases hq : (putChanges l).bad with
  | true =>
    rw [hbad hq]
    simp -implicitDefEqProofs only [go_sem, ↓reduceIte, Nat.reduceEqDiff, Int.reduceLT, Nat.reduceLT, Int.reduceToNat, Int.reducePow, Nat.reduceAdd, Int.reduceEq, Nat.reduceLeDiff, Int.reduceLE]
    refine href.mono ?_
    rintro v w4 ⟨v1, q, rfl, hqo, _, f4⟩
    have hq0 : q = false := by
      cases q with
      | false => rfl
      | true => have := hiff.2 ⟨rfl, hqo.1 rfl⟩; rw [hq] at this; cases this
    subst hq0
    have kk4 := kk3.new f4 (fun k e hk => by have := e.1; have := kk3.size; omega)
    have y1 : ¬ (0 : Int) < ((0 : Nat) : Int) := by omega
    simp -implicitDefEqProofs only [go_sem, ↓reduceIte, Nat.reduceEqDiff, Int.reduceLT, Nat.reduceLT, Int.reduceToNat, Int.reducePow, Nat.reduceAdd, Int.reduceEq, Nat.reduceLeDiff, Int.reduceLE, beq_self_eq_true, y1]
    refine (getChanges_calls (b := []) (A := none) (c := 0) (Nat.le_refl 0) (Nat.zero_le _) (Elems.nil _ _ _ _)).mono ?_
    rintro v w5 ⟨v1, rfl, hr5, k5⟩
    have kk9 := kk4.tr k5
    simp -implicitDefEqProofs only [go_sem, ↓reduceIte, Nat.reduceEqDiff, Int.reduceLT, Nat.reduceLT, Int.reduceToNat, Int.reducePow, Nat.reduceAdd, Int.reduceEq, Nat.reduceLeDiff, Int.reduceLE]
    refine (getChanges_calls hl2 hc2 ((he2.keep kk9).mono Nat.zero_lt_one fun k hk _ => hk)).mono ?_
    rintro v wa ⟨v1, rfl, hra, ka⟩
    have kka := kk9.tr ka
    have hbr : Blk _ _ _ _ := Blk.new wa 61 #[.slice B b.length d, .int .i64 0]
    have kB : Keep wa (wa.alloc (.cells #[.slice B b.length d, .int .i64 0] 61)) := Fx.alloc _ _ _
    have sB := size_alloc wa (.cells #[.slice B b.length d, .int .i64 0] 61)
    simp -implicitDefEqProofs only [go_sem, ↓reduceIte, Nat.reduceEqDiff, Int.reduceLT, Nat.reduceLT, Int.reduceToNat, Int.reducePow, Nat.reduceAdd, Int.reduceEq, Nat.reduceLeDiff, Int.reduceLE]
    generalize wa.alloc (.cells #[.slice B b.length d, .int .i64 0] 61) = wb at *
    obtain ⟨g, hg⟩ : ∃ g, g = wa.heap.size := ⟨_, rfl⟩
    rw [← hg] at hbr ⊢
    have kkb := kka.tr kB
    have sb := kka.size
    have hR : RdS 61 (fun k => k < w.heap.size) wb g ⟨b, 0⟩ := ⟨B, d, hbr, hl2, hc2, he2.keep kkb⟩
    have hrb := kChanges.keep hra kB
    refine (refChanges_calls (U := fun k => k < w.heap.size) (by omega) (fun k hk => by omega) hR).mono ?_
    rintro v2 wc ⟨hrc, hR2, fc⟩
    have s9 := kk9.size
    have kkc := kkb.new fc (fun k e hk => by have : k = g := e; omega)
    have hrb2 := kChanges.fx (kChanges.lt hra) (show Fx (fun k => ¬ k < wa.heap.size) wa wc from (kB.fx _).tr (fc.weaken fun k _ e => by have : k = g := e; omega)) (fun k hk hn => hn hk.2)
    simp -implicitDefEqProofs only [go_sem, ↓reduceIte, Nat.reduceEqDiff, Int.reduceLT, Nat.reduceLT, Int.reduceToNat, Int.reducePow, Nat.reduceAdd, Int.reduceEq, Nat.reduceLeDiff, Int.reduceLE]
    refine (refEnd_calls (U := fun k => k < w.heap.size) (by omega) hR2).mono ?_
    rintro v3 wd ⟨rfl, hR3, fd⟩
    have sc := fc.size
    have kkd := kkc.new fd (fun k e hk => by have : k = g := e; omega)
    have hrb3 := kChanges.fx hrb2 fd (fun k hk e => by have : k = g := e; omega)
    have hrc3 := kChanges.fx hrc fd (fun k hk e => by have : k = g := e; omega)
    have eq : rlist rchange ⟨b, 0⟩ = rchanges ⟨b, 0⟩ := rfl
    rw [eq] at *
    have hge : getChanges b = if (rend (rchanges ⟨b, 0⟩).2).why = 0 then ((rchanges ⟨b, 0⟩).1, 0) else ([], (rend (rchanges ⟨b, 0⟩).2).why) := rfl
    by_cases hw : (rend (rchanges ⟨b, 0⟩).2).why = 0
    · rw [if_pos hw] at hge
      rw [hge] at hrb3 ⊢
      have y1 : ((rend (rchanges ⟨b, 0⟩).2).why != 0) = false := by rw [hw]; rfl
      have y2 : ((0 : Int) == 0) = true := rfl
      simp -implicitDefEqProofs only [go_sem, ↓reduceIte, Nat.reduceEqDiff, Int.reduceLT, Nat.reduceLT, Int.reduceToNat, Int.reducePow, Nat.reduceAdd, Int.reduceEq, Nat.reduceLeDiff, Int.reduceLE, y1, y2]
      refine (sameChanges_calls hrb3 hrc3).mono ?_
      rintro v4 we ⟨⟨q, rfl, hqq⟩, k4⟩
      have hq1 : q = true := hqq.2 rfl
      subst hq1
      simp -implicitDefEqProofs only [go_sem, ↓reduceIte, Nat.reduceEqDiff, Int.reduceLT, Nat.reduceLT, Int.reduceToNat, Int.reducePow, Nat.reduceAdd, Int.reduceEq, Nat.reduceLeDiff, Int.reduceLE]
      exact ⟨trivial, kkd.tr k4⟩
    · rw [if_neg hw] at hge
      rw [hge] at hrb3 ⊢
      obtain ⟨Az, cz, ez, _⟩ := list_one hrb3
      cases ez
      have y1 : ((rend (rchanges ⟨b, 0⟩).2).why != 0) = true := by rw [bne_iff_ne]; exact hw
      have y2 : ((rend (rchanges ⟨b, 0⟩).2).why == (rend (rchanges ⟨b, 0⟩).2).why) = true := by rw [beq_iff_eq]
      have y3 : ((([] : List MChange).length : Int) == 0) = true := rfl
      have y4 : (((0 : Nat) : Int) == 0) = true := rfl
      simp -implicitDefEqProofs only [go_sem, ↓reduceIte, Nat.reduceEqDiff, Int.reduceLT, Nat.reduceLT, Int.reduceToNat, Int.reducePow, Nat.reduceAdd, Int.reduceEq, Nat.reduceLeDiff, Int.reduceLE, y1, y2, y3, y4]
      exact ⟨trivial, kkd⟩
  | false =>
    obtain ⟨v1, rfl, ho⟩ := hgood hq
    obtain ⟨hgp, hbs, hwr⟩ := get_put hR hq
    have hok := (hiff.1 hq).2
    simp -implicitDefEqProofs only [go_sem, ↓reduceIte, Nat.reduceEqDiff, Int.reduceLT, Nat.reduceLT, Int.reduceToNat, Int.reducePow, Nat.reduceAdd, Int.reduceEq, Nat.reduceLeDiff, Int.reduceLE]
    refine href.mono ?_
    rintro v w4 ⟨v2, q, rfl, hqo, ho2, f4⟩
    have hq0 : q = true := hqo.2 hok
    subst hq0
    have ho2 := ho2 rfl
    rw [List.nil_append, ← hwr] at ho2
    have s4 := f4.size
    have kk4 := kk3.new f4 (fun k e hk => by have := e.1; have := kk3.size; omega)
    have ho4 := ho.fx f4 (fun k hk e => by have := (ho.lt hk).2; have := e.1; omega)
    generalize (putChanges l).b = bb at *
    obtain ⟨A1, c1, rfl, hc1, hr1⟩ := ho4.slice
    obtain ⟨A2, c2, rfl, hc2', hr2⟩ := ho2.slice
    obtain ⟨hcm1, he1⟩ := elems_own ho4 hbs
    simp -implicitDefEqProofs only [go_sem, ↓reduceIte, Nat.reduceEqDiff, Int.reduceLT, Nat.reduceLT, Int.reduceToNat, Int.reducePow, Nat.reduceAdd, Int.reduceEq, Nat.reduceLeDiff, Int.reduceLE, beq_self_eq_true]
    refine cv_bytes bs8 hr1 ?_
    simp -implicitDefEqProofs only [go_sem, ↓reduceIte, Nat.reduceEqDiff, Int.reduceLT, Nat.reduceLT, Int.reduceToNat, Int.reducePow, Nat.reduceAdd, Int.reduceEq, Nat.reduceLeDiff, Int.reduceLE]
    refine cv_bytes bs8 hr2 ?_
    simp -implicitDefEqProofs only [go_sem, ↓reduceIte, Nat.reduceEqDiff, Int.reduceLT, Nat.reduceLT, Int.reduceToNat, Int.reducePow, Nat.reduceAdd, Int.reduceEq, Nat.reduceLeDiff, Int.reduceLE, beq_self_eq_true]
    refine (getChanges_calls (b := bb) hc1 hcm1 (he1.mono Nat.zero_lt_one fun k hk _ => hk)).mono ?_
    rw [hgp]
    rintro v w5 ⟨v5, rfl, hr5, k5⟩
    have kk5 := kk4.tr k5
    have y1 : ((0 : Int) != 0) = false := rfl
    simp -implicitDefEqProofs only [go_sem, ↓reduceIte, Nat.reduceEqDiff, Int.reduceLT, Nat.reduceLT, Int.reduceToNat, Int.reducePow, Nat.reduceAdd, Int.reduceEq, Nat.reduceLeDiff, Int.reduceLE, y1]
    have hin : kChanges.rep (fun k => k < w.heap.size) w5 l [.slice A l.length c] := ⟨A, c, rfl, hl, hc, he.keep kk5⟩
    refine (sameChanges_calls hin hr5).mono ?_
    rintro v w6 ⟨⟨q, rfl, hqq⟩, k6⟩
    have hq1 : q = true := hqq.2 rfl
    subst hq1
    have kk9 := kk5.tr k6
    simp -implicitDefEqProofs only [go_sem, ↓reduceIte, Nat.reduceEqDiff, Int.reduceLT, Nat.reduceLT, Int.reduceToNat, Int.reducePow, Nat.reduceAdd, Int.reduceEq, Nat.reduceLeDiff, Int.reduceLE]
    refine (getChanges_calls hl2 hc2 ((he2.keep kk9).mono Nat.zero_lt_one fun k hk _ => hk)).mono ?_
    rintro v wa ⟨v1, rfl, hra, ka⟩
    have kka := kk9.tr ka
    have hbr : Blk _ _ _ _ := Blk.new wa 61 #[.slice B b.length d, .int .i64 0]
    have kB : Keep wa (wa.alloc (.cells #[.slice B b.length d, .int .i64 0] 61)) := Fx.alloc _ _ _
    have sB := size_alloc wa (.cells #[.slice B b.length d, .int .i64 0] 61)
    simp -implicitDefEqProofs only [go_sem, ↓reduceIte, Nat.reduceEqDiff, Int.reduceLT, Nat.reduceLT, Int.reduceToNat, Int.reducePow, Nat.reduceAdd, Int.reduceEq, Nat.reduceLeDiff, Int.reduceLE]
    generalize wa.alloc (.cells #[.slice B b.length d, .int .i64 0] 61) = wb at *
    obtain ⟨g, hg⟩ : ∃ g, g = wa.heap.size := ⟨_, rfl⟩
    rw [← hg] at hbr ⊢
    have kkb := kka.tr kB
    have sb := kka.size
    have hR : RdS 61 (fun k => k < w.heap.size) wb g ⟨b, 0⟩ := ⟨B, d, hbr, hl2, hc2, he2.keep kkb⟩
    have hrb := kChanges.keep hra kB
    refine (refChanges_calls (U := fun k => k < w.heap.size) (by omega) (fun k hk => by omega) hR).mono ?_
    rintro v2 wc ⟨hrc, hR2, fc⟩
    have s9 := kk9.size
    have kkc := kkb.new fc (fun k e hk => by have : k = g := e; omega)
    have hrb2 := kChanges.fx (kChanges.lt hra) (show Fx (fun k => ¬ k < wa.heap.size) wa wc from (kB.fx _).tr (fc.weaken fun k _ e => by have : k = g := e; omega)) (fun k hk hn => hn hk.2)
    simp -implicitDefEqProofs only [go_sem, ↓reduceIte, Nat.reduceEqDiff, Int.reduceLT, Nat.reduceLT, Int.reduceToNat, Int.reducePow, Nat.reduceAdd, Int.reduceEq, Nat.reduceLeDiff, Int.reduceLE]
    refine (refEnd_calls (U := fun k => k < w.heap.size) (by omega) hR2).mono ?_
    rintro v3 wd ⟨rfl, hR3, fd⟩
    have sc := fc.size
    have kkd := kkc.new fd (fun k e hk => by have : k = g := e; omega)
    have hrb3 := kChanges.fx hrb2 fd (fun k hk e => by have : k = g := e; omega)
    have hrc3 := kChanges.fx hrc fd (fun k hk e => by have : k = g := e; omega)
    have eq : rlist rchange ⟨b, 0⟩ = rchanges ⟨b, 0⟩ := rfl
    rw [eq] at *
    have hge : getChanges b = if (rend (rchanges ⟨b, 0⟩).2).why = 0 then ((rchanges ⟨b, 0⟩).1, 0) else ([], (rend (rchanges ⟨b, 0⟩).2).why) := rfl
    by_cases hw : (rend (rchanges ⟨b, 0⟩).2).why = 0
    · rw [if_pos hw] at hge
      rw [hge] at hrb3 ⊢
      have y1 : ((rend (rchanges ⟨b, 0⟩).2).why != 0) = false := by rw [hw]; rfl
      have y2 : ((0 : Int) == 0) = true := rfl
      simp -implicitDefEqProofs only [go_sem, ↓reduceIte, Nat.reduceEqDiff, Int.reduceLT, Nat.reduceLT, Int.reduceToNat, Int.reducePow, Nat.reduceAdd, Int.reduceEq, Nat.reduceLeDiff, Int.reduceLE, y1, y2]
      refine (sameChanges_calls hrb3 hrc3).mono ?_
      rintro v4 we ⟨⟨q, rfl, hqq⟩, k4⟩
      have hq1 : q = true := hqq.2 rfl
      subst hq1
      simp -implicitDefEqProofs only [go_sem, ↓reduceIte, Nat.reduceEqDiff, Int.reduceLT, Nat.reduceLT, Int.reduceToNat, Int.reducePow, Nat.reduceAdd, Int.reduceEq, Nat.reduceLeDiff, Int.reduceLE]
      exact ⟨trivial, kkd.tr k4⟩
    · rw [if_neg hw] at hge
      rw [hge] at hrb3 ⊢
      obtain ⟨Az, cz, ez, _⟩ := list_one hrb3
      cases ez
      have y1 : ((rend (rchanges ⟨b, 0⟩).2).why != 0) = true := by rw [bne_iff_ne]; exact hw
      have y2 : ((rend (rchanges ⟨b, 0⟩).2).why == (rend (rchanges ⟨b, 0⟩).2).why) = true := by rw [beq_iff_eq]
      have y3 : ((([] : List MChange).length : Int) == 0) = true := rfl
      have y4 : (((0 : Nat) : Int) == 0) = true := rfl
      simp -implicitDefEqProofs only [go_sem, ↓reduceIte, Nat.reduceEqDiff, Int.reduceLT, Nat.reduceLT, Int.reduceToNat, Int.reducePow, Nat.reduceAdd, Int.reduceEq, Nat.reduceLeDiff, Int.reduceLE, y1, y2, y3, y4]
      exact ⟨trivial, kkd⟩
end Go.Proofs.Ytnoeeiaffnbhcaa.F
