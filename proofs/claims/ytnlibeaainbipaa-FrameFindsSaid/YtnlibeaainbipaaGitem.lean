/- Items and changes are read, and lists of them. Conditions: those of the reader's box; what is left to read lies below lo. -/
import Derived.Test.YtnlibeaainbipaaGthings
import Derived.Test.YtnlibeaainbipaaGkind
namespace Go.Proofs.Ytnlibeaainbipaa.F
open Go.RowKit Go.Proofs.Ytnlibeaainbipaa.M Go.Proofs.Ytnlibeaainbipaa.V
set_option linter.unusedSimpArgs false
set_option linter.unusedVariables false
set_option maxRecDepth 20000
theorem ownR_int {kd : IntKind} {e : TypeId} {U : Nat → Prop} {lo : Nat} {w : World} {v : Value} {xs : List Int} (h : OwnR (Kind.int kd) e U lo w v xs) : OwnI e kd lo w v xs := by
  obtain ⟨css, h1, hl, h2⟩ := h
  have hc : css = xs.map fun x => [Value.int kd x] := by
    apply List.ext_getElem?
    intro j
    rw [List.getElem?_map]
    cases hx : xs[j]? with
    | none =>
      rw [List.getElem?_eq_none_iff] at hx
      rw [List.getElem?_eq_none (by omega)]; rfl
    | some x =>
      obtain ⟨vs, hv, hr⟩ := h2 j x hx
      rw [hv, hr.1]; rfl
  subst hc
  have e : ∀ l : List Int, (l.map fun x => [Value.int kd x]).flatten = l.map (Value.int kd) := fun l => by
    induction l with
    | nil => rfl
    | cons x l ih => simp [ih]
  rw [e xs] at h1
  exact h1

section
variable {U : Nat → Prop} {w : World} {g lo : Nat} {s : RS}
theorem vec1_one (hU : ¬ U g) (bx : Nat) : One (Kind.int .i32) U g (fun w => Blk w bx 101 #[.pointer (some (At g 0))]) (rwhole (-2147483648) 2147483647) 77 (#[] ++ #[] ++ #[.pointer (some (At bx 0))]) := by
  intro w s hb h
  refine callK_of Try.func77 c77 r77 (by exact Nat.le_of_ble_eq_true rfl) ?_
  rw [m77]
  simp -implicitDefEqProofs only [go_sem, seval, hb.cell]
  refine (whole_calls (-2147483648) 2147483647 hU h).mono ?_
  rintro v w1 ⟨rfl, h1, f1⟩
  have r := rwhole_range (-2147483648) 2147483647 (by decide) (by decide) s
  have e := i32_id r.1 r.2
  simp -implicitDefEqProofs only [go_sem, seval, e]
  exact ⟨⟨rfl, wfI32 r.1 r.2⟩, h1, f1⟩
theorem vec_own (hU : ¬ U g) (hlt : ∀ k, U k → k < w.heap.size) (h : RdS 103 U w g s) :
    callK Try.prog 52 #[.pointer (some (At g 0))] w fun v w' => (kVec.rep (fun k => w.heap.size ≤ k) w' (rvec s).1 [v] ∧ OwnI 21 .i32 w.heap.size w' v (rvec s).1) ∧ RdS 103 U w' g (rvec s).2 ∧ Fx (only g) w w' := by
  refine callK_of Try.func52 c52 r52 (by exact Nat.le_of_ble_eq_true rfl) ?_
  rw [m52]
  simp -implicitDefEqProofs only [go_sem, seval]
  have kA : Keep w (w.alloc (.cells #[.pointer (some (At g 0))] 101)) := Fx.alloc _ w _
  have hb : Blk _ _ _ _ := Blk.new w 101 #[.pointer (some (At g 0))]
  have h1 := h.keep kA
  have hs := size_alloc w (.cells #[.pointer (some (At g 0))] 101)
  have hg := h.lt
  generalize w.alloc (.cells #[.pointer (some (At g 0))] 101) = w1 at *
  generalize hbx : w.heap.size = bx at *
  refine (tInt_own (K := Kind.int .i32) (J := fun w => Blk w bx 101 #[.pointer (some (At g 0))]) rfl Nat.zero_lt_one hb77 hU (vec1_one hU bx) ?_ hb h1 (fun k hk => by have := hlt k hk; omega)).mono ?_
  · intro w2 w3 m j f hm
    exact f.blk j (fun e => by rcases hm _ e with e | e <;> omega)
  rintro v w2 ⟨hr, h2, f2⟩
  simp -implicitDefEqProofs only [go_sem, seval]
  exact ⟨⟨kVec.mono (hr.rep Nat.zero_lt_one (fun _ hk => hk) (fun _ hk => hk)) (fun k _ hk => by omega), (ownR_int hr).lower (by omega)⟩, h2, (kA.fx _).tr f2⟩
theorem vec_calls (hU : ¬ U g) (hlt : ∀ k, U k → k < w.heap.size) (h : RdS 103 U w g s) :
    callK Try.prog 52 #[.pointer (some (At g 0))] w fun v w' => kVec.rep (fun k => w.heap.size ≤ k) w' (rvec s).1 [v] ∧ RdS 103 U w' g (rvec s).2 ∧ Fx (only g) w w' :=
  (vec_own hU hlt h).mono fun v w' k => ⟨k.1.1, k.2⟩
theorem texts_calls (hU : ¬ U g) (hlt : ∀ k, U k → k < w.heap.size) (h : RdS 103 U w g s) :
    callK Try.prog 54 #[.pointer (some (At g 0))] w fun v w' => kTexts.rep (fun k => w.heap.size ≤ k) w' (rtexts s).1 [v] ∧ RdS 103 U w' g (rtexts s).2 ∧ Fx (only g) w w' := by
  refine callK_of Try.func54 c54 r54 (by exact Nat.le_of_ble_eq_true rfl) ?_
  rw [m54]
  simp -implicitDefEqProofs only [go_sem, seval]
  refine (tStr_calls (K := Kind.str) (J := fun _ => True) (one := rtext) rfl Nat.zero_lt_one hb48 hU ?_ (fun _ _ _ _ _ _ => trivial) trivial h hlt).mono ?_
  · intro w2 s2 _ h2
    refine (string_calls hU h2).mono ?_
    rintro v w3 ⟨rfl, hs, h3, f3⟩
    exact ⟨⟨rfl, hs⟩, h3, f3⟩
  rintro v w2 ⟨hr, h2, f2⟩
  simp -implicitDefEqProofs only [go_sem, seval]
  exact ⟨hr, h2, f2⟩
theorem item_calls (hU : ¬ U g) (hlt : ∀ k, U k → k < w.heap.size) (h : RdS 103 U w g s) :
    callK Try.prog 57 #[.pointer (some (At g 0))] w fun v w' => (∃ v1 v2, v = .agg #[.int .u32 (ritem s).1.id, v1, v2] ∧ kItem.rep (fun k => w.heap.size ≤ k) w' (ritem s).1 [.int .u32 (ritem s).1.id, v1, v2]) ∧ RdS 103 U w' g (ritem s).2 ∧ Fx (only g) w w' := by
  refine callK_of Try.func57 c57 r57 (by exact Nat.le_of_ble_eq_true rfl) ?_
  rw [m57]
  simp -implicitDefEqProofs only [go_sem, seval]
  have kA : Keep w (w.alloc (.cells #[.int .u32 0, .slice none 0 0, .slice none 0 0] 58)) := Fx.alloc _ w _
  have hb : Blk _ _ _ _ := Blk.new w 58 #[.int .u32 0, .slice none 0 0, .slice none 0 0]
  have h1 := h.keep kA
  have hs := size_alloc w (.cells #[.int .u32 0, .slice none 0 0, .slice none 0 0] 58)
  have hg := h.lt
  have r := rnum_range 4294967295 (by decide) s h.bs
  generalize w.alloc (.cells #[.int .u32 0, .slice none 0 0, .slice none 0 0] 58) = w1 at *
  obtain ⟨bx, hbx⟩ : ∃ bx, bx = w.heap.size := ⟨_, rfl⟩
  rw [← hbx] at hb ⊢
  refine (small_calls hU h1).mono ?_
  rintro v w2 ⟨rfl, h2, f2⟩
  have s2 := f2.size
  simp -implicitDefEqProofs only [go_sem, seval]
  refine (vec_calls hU (fun k hk => by have := hlt k hk; omega) h2).mono ?_
  rintro v1 w3 ⟨hv1, h3, f3⟩
  have s3 := f3.size
  simp -implicitDefEqProofs only [go_sem, seval]
  refine (texts_calls hU (fun k hk => by have := hlt k hk; omega) h3).mono ?_
  rintro v2 w4 ⟨hv2, h4, f4⟩
  have o1 := kVec.one hv1 v1 (by simp)
  have o2 := kTexts.one hv2 v2 (by simp)
  have hv1' := kVec.fx hv1 f4 (fun k hk e => by have : k = g := e; omega)
  have hb2 := f2.blk hb (fun e => by have : bx = g := e; omega)
  have hb3 := f3.blk hb2 (fun e => by have : bx = g := e; omega)
  have hb4 := f4.blk hb3 (fun e => by have : bx = g := e; omega)
  have S0 := stB (P := Try.prog) (o := 0) sz58 hb4 (by decide)
  have L0 := ldP (P := Try.prog) sh58 hb4 rfl
  simp -implicitDefEqProofs only [go_sem, seval, o1, o2, S0, L0]
  have f5 : Fx (only bx) w4 (putW w4 bx 0 [.int .u32 (rnum 4294967295 s).1, v1, v2]) := Fx.put _ _ _ _ rfl
  refine ⟨⟨v1, v2, rfl, ?_⟩, h4.fx f5 (fun e => by have : g = bx := e; omega) (fun k hk e => by have : k = bx := e; have := hlt k hk; omega), (((kA.fx _).tr f2).tr (f3.tr f4)).new f5 (fun k e hk => by have : k = bx := e; omega)⟩
  exact kItem_mk (x := (ritem s).1) (wfU32 r.1 r.2) (kVec.mono (kVec.fx hv1' f5 (fun k hk e => by have : k = bx := e; omega)) (fun k _ hk => by omega)) (kTexts.mono (kTexts.fx hv2 f5 (fun k hk e => by have : k = bx := e; omega)) (fun k _ hk => by omega))
theorem change_calls (hU : ¬ U g) (hlt : ∀ k, U k → k < w.heap.size) (h : RdS 103 U w g s) :
    callK Try.prog 51 #[.pointer (some (At g 0))] w fun v w' => (∃ cs, v = .agg (List.toArray cs) ∧ kChange.rep (fun k => w.heap.size ≤ k) w' (rchange s).1 cs) ∧ RdS 103 U w' g (rchange s).2 ∧ Fx (only g) w w' := by
  refine callK_of Try.func51 c51 r51 (by exact Nat.le_of_ble_eq_true rfl) ?_
  rw [m51]
  simp -implicitDefEqProofs only [go_sem, seval]
  have kA : Keep w (w.alloc (.cells #[.bool false, .int .u32 0, .slice none 0 0, .slice none 0 0] 91)) := Fx.alloc _ w _
  have hb : Blk _ _ _ _ := Blk.new w 91 #[.bool false, .int .u32 0, .slice none 0 0, .slice none 0 0]
  have h1 := h.keep kA
  have hs := size_alloc w (.cells #[.bool false, .int .u32 0, .slice none 0 0, .slice none 0 0] 91)
  have hg := h.lt
  generalize w.alloc (.cells #[.bool false, .int .u32 0, .slice none 0 0, .slice none 0 0] 91) = w1 at *
  obtain ⟨bx, hbx⟩ : ∃ bx, bx = w.heap.size := ⟨_, rfl⟩
  rw [← hbx] at hb ⊢
  refine (flag_calls hU h1).mono ?_
  rintro v w2 ⟨rfl, h2, f2⟩
  have s2 := f2.size
  have hb2 := f2.blk hb (fun e => by have : bx = g := e; omega)
  unfold rchange
  cases hfl : (rflag s).1 with
  | true =>
    simp -implicitDefEqProofs only [go_sem, seval]
    have r := rnum_range 4294967295 (by decide) (rflag s).2 h2.bs
    refine (small_calls hU h2).mono ?_
    rintro v w3 ⟨rfl, h3, f3⟩
    have s3 := f3.size
    have hb3 := f3.blk hb2 (fun e => by have : bx = g := e; omega)
    have S0 := stB (P := Try.prog) (o := 0) sz91 hb3 (by decide)
    have L0 := ldP (P := Try.prog) sh91 hb3 rfl
    simp -implicitDefEqProofs only [go_sem, seval, S0, L0]
    have f5 : Fx (only bx) w3 (putW w3 bx 0 [.bool true, .int .u32 (rnum 4294967295 (rflag s).2).1, .slice none 0 0, .slice none 0 0]) := Fx.put _ _ _ _ rfl
    refine ⟨⟨_, rfl, ?_⟩, h3.fx f5 (fun e => by have : g = bx := e; omega) (fun k hk e => by have : k = bx := e; have := hlt k hk; omega), ((kA.fx _).tr (f2.tr f3)).new f5 (fun k e hk => by have : k = bx := e; omega)⟩
    exact kChange_mk (x := ⟨true, ⟨_, [], []⟩⟩) (kItem_mk (wfU32 r.1 r.2) (nil_rep _ _) (nil_rep _ _))
  | false =>
    simp -implicitDefEqProofs only [go_sem, seval]
    refine (item_calls hU (fun k hk => by have := hlt k hk; omega) h2).mono ?_
    rintro v w3 ⟨⟨v1, v2, rfl, hr⟩, h3, f3⟩
    have s3 := f3.size
    have hb3 := f3.blk hb2 (fun e => by have : bx = g := e; omega)
    have o1 := kItem.one hr v1 (by simp)
    have o2 := kItem.one hr v2 (by simp)
    have S0 := stB (P := Try.prog) (o := 0) sz91 hb3 (by decide)
    have L0 := ldP (P := Try.prog) sh91 hb3 rfl
    simp -implicitDefEqProofs only [go_sem, seval, o1, o2, S0, L0]
    have f5 : Fx (only bx) w3 (putW w3 bx 0 [.bool false, .int .u32 (ritem (rflag s).2).1.id, v1, v2]) := Fx.put _ _ _ _ rfl
    refine ⟨⟨_, rfl, ?_⟩, h3.fx f5 (fun e => by have : g = bx := e; omega) (fun k hk e => by have : k = bx := e; have := hlt k hk; omega), ((kA.fx _).tr (f2.tr f3)).new f5 (fun k e hk => by have : k = bx := e; omega)⟩
    exact kChange_mk (x := ⟨false, (ritem (rflag s).2).1⟩) (kItem.mono (kItem.fx hr f5 (fun k hk e => by have : k = bx := e; omega)) (fun k _ hk => by omega))
end

end Go.Proofs.Ytnlibeaainbipaa.F
