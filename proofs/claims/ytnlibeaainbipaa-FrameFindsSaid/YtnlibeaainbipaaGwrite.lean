/- The writer of messages, step by step: what it has is what the plain writing has. Conditions: its box holds what is written so far; the data lies in blocks that stand before it. -/
import Derived.Test.YtnlibeaainbipaaZ4
import Derived.Test.YtnlibeaainbipaaGread
import Derived.Test.YtnlibeaainbipaaGkind
import Derived.Test.YtnlibeaainbipaaWpure
namespace Go.Proofs.Ytnlibeaainbipaa.M
open Go.RowKit Go.Proofs.Ytnlibeaainbipaa.V
/-- A writer's box: the bytes so far, is something bad. -/
def WrS (t e : TypeId) (w : World) (g lo : Nat) (s : WS) : Prop := lo ≤ g ∧ s.b.length ≤ 70368744177664 ∧ ∃ v, Blk w g t #[v, .bool s.bad] ∧ OwnI e .u8 lo w v s.b
theorem WrS.fx {t e : TypeId} {m : Nat → Prop} {w w' : World} {g lo : Nat} {s : WS} (h : WrS t e w g lo s) (hf : Fx m w w') (hm : ∀ k, lo ≤ k → k < w.heap.size → ¬ m k) : WrS t e w' g lo s := by
  obtain ⟨h1, h2, v, hb, ho⟩ := h
  exact ⟨h1, h2, v, hf.blk hb (hm g h1 hb.lt), ho.fx hf fun k hk => by have := ho.lt hk; exact hm k this.1 this.2⟩
theorem WrS.keep {t e : TypeId} {w w' : World} {g lo : Nat} {s : WS} (h : WrS t e w g lo s) (hf : Keep w w') : WrS t e w' g lo s := h.fx hf (fun _ _ _ x => x)
theorem WrS.lt {t e : TypeId} {w : World} {g lo : Nat} {s : WS} (h : WrS t e w g lo s) : lo ≤ g ∧ g < w.heap.size := by
  obtain ⟨h1, _, v, hb, _⟩ := h
  exact ⟨h1, hb.lt⟩
/-- What a writing may write. -/
def Wm (e : TypeId) (w : World) (g lo k : Nat) : Prop := k = g ∨ (lo ≤ k ∧ ∃ cs, Blk w k e cs)
theorem Wm.tr {e : TypeId} {w w1 w2 : World} {g lo : Nat} (h : Fx (Wm e w g lo) w w1) (h' : Fx (Wm e w1 g lo) w1 w2) : Fx (Wm e w g lo) w w2 := by
  refine h.trans h' fun k hk x => ?_
  rcases Classical.em (Wm e w g lo k) with q | q
  · exact q
  · rcases x with x | ⟨h1, cs, hc⟩
    · exact .inl x
    · exact .inr ⟨h1, cs, (h.block k hk q).symm.trans hc⟩
theorem Wm.ktr {e : TypeId} {w w1 w2 : World} {g lo : Nat} (h : Keep w w1) (h' : Fx (Wm e w1 g lo) w1 w2) : Fx (Wm e w g lo) w w2 := Wm.tr (h.fx _) h'
theorem Wm.low {e : TypeId} {w : World} {g lo k : Nat} (hg : lo ≤ g) (h : k < lo) : ¬ Wm e w g lo k := by
  rintro (x | ⟨x, _⟩) <;> omega
theorem Wm.not {e : TypeId} {w : World} {g lo k t : Nat} {cs : Array Value} (hb : Blk w k t cs) (ht : t ≠ e) (hg : k ≠ g) : ¬ Wm e w g lo k := by
  rintro (x | ⟨_, cs', x⟩)
  · exact hg x
  · have := Option.some.inj (Eq.trans (Eq.symm hb) x)
    cases this
    exact ht rfl
theorem OwnI.wm {e : TypeId} {w : World} {g lo : Nat} {v : Value} {xs : List Int} (h : OwnI e .u8 lo w v xs) {k : Nat} (hk : some k = v.ownBlock) : Wm e w g lo k := by
  rcases h.2 with ⟨hv', _⟩ | ⟨g', cap, cur, hv', hb, hg, _⟩
  · rw [hv'] at hk; cases hk
  · rw [hv'] at hk
    have : k = g' := by simpa [Value.ownBlock] using hk
    subst this
    exact .inr ⟨hb, cur, hg⟩
end Go.Proofs.Ytnlibeaainbipaa.M
namespace Go.Proofs.Ytnlibeaainbipaa.F
open Go.RowKit Go.Proofs.Ytnlibeaainbipaa.M Go.Proofs.Ytnlibeaainbipaa.V
set_option linter.unusedSimpArgs false
set_option linter.unusedVariables false
set_option maxRecDepth 20000
/-- What a writing ends with. -/
def Wrote (w : World) (g lo : Nat) (s : WS) : Value → World → Prop := fun v w' => v = .tuple #[] ∧ WrS 96 5 w' g lo s ∧ Fx (Wm 5 w g lo) w w'
section
variable {w : World} {g lo : Nat} {s : WS}
theorem wnum_calls {n : Nat} (hn : n < 18446744073709551616) (h : WrS 96 5 w g lo s) (hl : s.b.length + 10 ≤ 70368744177664) :
    callK Try.prog 35 #[.pointer (some (At g 0)), .int .u64 n] w (Wrote w g lo (wnum n s)) := by
  refine callK_of Try.func35 c35 r35 (by exact Nat.le_of_ble_eq_true rfl) ?_
  rw [m35]
  obtain ⟨h1, h2, v, hb, ho⟩ := h
  have hbd : Blk w.drew g 96 #[v, .bool s.bad] := hb
  have hod : OwnI 5 .u8 lo w.drew v s.b := ho
  have f0 : Keep w w.drew := Fx.drew _ _
  simp -implicitDefEqProofs only [go_sem, seval]
  generalize w.drew = wd at *
  obtain ⟨A, c, rfl, hc, _⟩ := hod.slice
  refine seg_intro (fun w' => Blk w' g 96 #[.slice A s.b.length c, .bool s.bad]) hbd ?_
  simp -implicitDefEqProofs only [go_sem, seval]
  refine hld_intro (.slice A s.b.length c) hbd (fun w' hw' => by simp -implicitDefEqProofs only [go_sem, seval, hw'.cell]; exact ⟨trivial, trivial⟩) ?_
  simp -implicitDefEqProofs only [go_sem, seval]
  refine (put_calls hn wd).mono ?_
  rintro v w2 ⟨o2, k2⟩
  have hb2 := k2.blk hbd (fun x => x)
  refine goE_intro hb2 ?_
  obtain ⟨A2, c2, rfl, hc2, r2⟩ := o2.slice
  have ho2 := hod.fx k2 (fun _ _ x => x)
  have hv := vput_u64 hn
  have hlt := hb2.lt
  simp -implicitDefEqProofs only [go_sem, seval]
  refine append_own ie8 (by decide) ho2 r2 (by omega) (by omega) ?_
  intro v4 w4 o4 hf _
  have hne := ho2.ne hb2 (by decide)
  have hb4 := hf.blk hb2 (fun e => hne e.symm)
  obtain ⟨A4, c4, rfl, hc4, _⟩ := o4.slice
  simp -implicitDefEqProofs only [go_sem, seval, hb4.cell, hb4.frozen]
  have hb5 := hb4.set 0 (.slice A4 (s.b ++ vput n).length c4)
  have ff : Fx (Wm 5 w4 g lo) w4 (w4.setCell (At g 0) (.slice A4 (s.b ++ vput n).length c4)) := Fx.set _ _ _ (.inl rfl)
  have hne4 := o4.ne hb4 (by decide)
  refine ⟨rfl, ⟨h1, by show (s.b ++ vput n).length ≤ _; rw [List.length_append]; omega, _, hb5, o4.fx (Fx.set (m := only g) _ _ _ rfl) fun k hk e => hne4 (by rw [← hk, e])⟩, ?_⟩
  exact Wm.ktr (f0.tr k2) (Wm.tr (hf.weaken fun k _ e => ho2.wm e) ff)
theorem wflag_calls (b : Bool) (h : WrS 96 5 w g lo s) (hl : s.b.length + 10 ≤ 70368744177664) :
    callK Try.prog 61 #[.pointer (some (At g 0)), .bool b] w (Wrote w g lo (wflag b s)) := by
  refine callK_of Try.func61 c61 r61 (by exact Nat.le_of_ble_eq_true rfl) ?_
  rw [m61]
  cases b with
  | true =>
    simp -implicitDefEqProofs only [go_sem, seval]
    refine (wnum_calls (n := 1) (by decide) h hl).mono ?_
    rintro v w' ⟨rfl, r⟩
    simp -implicitDefEqProofs only [go_sem, seval]
    exact ⟨rfl, r⟩
  | false =>
    simp -implicitDefEqProofs only [go_sem, seval]
    refine (wnum_calls (n := 0) (by decide) h hl).mono ?_
    rintro v w' ⟨rfl, r⟩
    simp -implicitDefEqProofs only [go_sem, seval]
    exact ⟨rfl, r⟩
theorem wtext_calls (x : ByteArray) (hx : x.size ≤ maxLen) (h : WrS 96 5 w g lo s) (hl : s.b.length + 4106 ≤ 70368744177664) :
    callK Try.prog 36 #[.pointer (some (At g 0)), .string x] w (Wrote w g lo (wtext x s)) := by
  refine callK_of Try.func36 c36 r36 (by exact Nat.le_of_ble_eq_true rfl) ?_
  rw [m36]
  have nl := nums_len x
  obtain ⟨h1, h2, v, hb, ho⟩ := id h
  have hne := ho.ne hb (by decide)
  have st : ∀ q : Bool, WrS 96 5 (w.setCell (At g 1) (.bool q)) g lo ⟨s.b, q⟩ ∧ Fx (Wm 5 w g lo) w (w.setCell (At g 1) (.bool q)) := fun q =>
    ⟨⟨h1, h2, v, hb.set 1 (.bool q), ho.fx (Fx.set (m := only g) _ _ _ rfl) fun k hk e => hne (by rw [← hk, e])⟩, Fx.set _ _ _ (.inl rfl)⟩
  by_cases hc : s.bad = true ∨ 4096 < x.size
  · have hr : wtext x s = ⟨s.b, true⟩ := by unfold wtext wbytes; rw [nl, if_pos hc]
    rw [hr]
    have hbs : (w.setCell (At g 1) (.bool true)).cell? (At g 1) = some (.bool true) := (hb.set 1 (.bool true)).cell 1
    by_cases hbad : s.bad = true
    case' pos => rw [hbad] at hb
    case' pos => simp -implicitDefEqProofs only [go_sem, seval, hb.cell, hb.frozen, hbs]
    case' neg => have hb0 : s.bad = false := by simpa using hbad
    case' neg => rw [hb0] at hb
    case' neg => have hlt : (4096 : Int) < (x.size : Int) := by rcases hc with hc | hc; exact absurd hc hbad; omega
    case' neg => simp -implicitDefEqProofs only [go_sem, seval, hb.cell, hb.frozen, hlt, hbs]
    all_goals exact ⟨rfl, st true⟩
  · have hb0 : s.bad = false := by cases hq : s.bad; rfl; exact absurd (.inl hq) hc
    have hlt : ¬ (4096 : Int) < (x.size : Int) := fun e => hc (.inr (by omega))
    have hr : wtext x s = ⟨(wnum x.size ⟨s.b, false⟩).b ++ nums x, false⟩ := by unfold wtext wbytes; rw [nl, if_neg hc]; rfl
    rw [hr]
    have hbs : (w.setCell (At g 1) (.bool false)).cell? (At g 1) = some (.bool false) := (hb.set 1 (.bool false)).cell 1
    rw [hb0] at hb
    have e1 : IntKind.u64.wrap (x.size : Int) = x.size := u64_nat (by omega) (by omega)
    simp -implicitDefEqProofs only [go_sem, seval, hb.cell, hb.frozen, hlt, hbs, e1]
    refine (wnum_calls (n := x.size) (by omega) (st false).1 (by show s.b.length + 10 ≤ _; omega)).mono ?_
    rintro v w2 ⟨rfl, hw2, f2⟩
    obtain ⟨_, hl2, v2, hb2, ho2⟩ := hw2
    obtain ⟨A2, c2, rfl, hc2, _⟩ := ho2.slice
    have hlv : (wnum x.size ⟨s.b, false⟩).b.length ≤ s.b.length + 10 := by
      have := vput_u64 (n := x.size) (by omega)
      show (s.b ++ vput x.size).length ≤ _
      rw [List.length_append]; omega
    have hlt2 := hb2.lt
    generalize (wnum x.size ⟨s.b, false⟩).b = b2 at *
    simp -implicitDefEqProofs only [go_sem, seval, hb2.cell]
    refine append_str ie8 Try.underlying9 ho2 (by omega) (by omega) ?_
    intro v4 w4 o4 hf
    have hne2 := ho2.ne hb2 (by decide)
    have hb4 := hf.blk hb2 (fun e => hne2 e.symm)
    obtain ⟨A4, c4, rfl, hc4, _⟩ := o4.slice
    simp -implicitDefEqProofs only [go_sem, seval, hb4.cell, hb4.frozen]
    have hb5 := hb4.set 0 (.slice A4 (b2 ++ nums x).length c4)
    have hne4 := o4.ne hb4 (by decide)
    refine ⟨rfl, ⟨h1, by show (b2 ++ nums x).length ≤ _; rw [List.length_append]; omega, _, hb5, o4.fx (Fx.set (m := only g) _ _ _ rfl) fun k hk e => hne4 (by rw [← hk, e])⟩, ?_⟩
    exact Wm.tr (st false).2 (Wm.tr f2 (Wm.tr (hf.weaken fun k _ e => ho2.wm e) (Fx.set _ _ _ (.inl rfl))))
end

theorem wlistInt_calls {one : Int → WS → WS} {B : Nat} {U : Nat → Prop} {J : World → Prop} {w : World} {g lo : Nat} {s : WS} {F : Nat} {first cap : Array Value} {xs : List Int} {A : Option Addr} {c : Nat} (hF : hasBody Try.prog F = true)
    (hJ : ∀ w1 w2, J w1 → Fx (Wm 5 w1 g lo) w1 w2 → J w2) (hU : ∀ k, U k → k < lo)
    (H : ∀ (w : World) (x : Int) (s : WS) (vs : List Value), J w → (Kind.int .i32).rep U w x vs → WrS 96 5 w g lo s → s.b.length + B ≤ 70368744177664 → ∀ v, v = (.int .i32 x) → callK Try.prog F (first ++ #[v] ++ cap) w (Wrote w g lo (one x s)))
    (hB : ∀ (w : World) (x : Int) (s : WS) (vs : List Value), (Kind.int .i32).rep U w x vs → (one x s).b.length ≤ s.b.length + B)
    (hx : Elems (Kind.int .i32) U w A xs) (hxl : xs.length ≤ 9223372036854775807) (j : J w) (h : WrS 96 5 w g lo s) (hs : s.b.length + (10 + 128 * B) ≤ 70368744177664) :
    callK Try.prog 63 #[.pointer (some (At g 0)), .slice A xs.length c, .func (.func F) first cap] w (Wrote w g lo (wlist one xs s)) := by
  refine callK_of Try.func63 c63 r63 (by exact Nat.le_of_ble_eq_true rfl) ?_
  rw [m63]
  obtain ⟨h1, h2, v, hb, ho⟩ := id h
  have hne := ho.ne hb (by decide)
  have st : ∀ q : Bool, WrS 96 5 (w.setCell (At g 1) (.bool q)) g lo ⟨s.b, q⟩ ∧ Fx (Wm 5 w g lo) w (w.setCell (At g 1) (.bool q)) := fun q =>
    ⟨⟨h1, h2, v, hb.set 1 (.bool q), ho.fx (Fx.set (m := only g) _ _ _ rfl) fun k hk e => hne (by rw [← hk, e])⟩, Fx.set _ _ _ (.inl rfl)⟩
  by_cases hc : s.bad = true ∨ 128 < xs.length
  · have hr : wlist one xs s = ⟨s.b, true⟩ := by unfold wlist; rw [if_pos hc]
    rw [hr]
    have hbs : (w.setCell (At g 1) (.bool true)).cell? (At g 1) = some (.bool true) := (hb.set 1 (.bool true)).cell 1
    by_cases hbad : s.bad = true
    case' pos => rw [hbad] at hb
    case' pos => simp -implicitDefEqProofs only [go_sem, seval, hb.cell, hb.frozen, hbs]
    case' neg => have hb0 : s.bad = false := by simpa using hbad
    case' neg => rw [hb0] at hb
    case' neg => have hlt : (128 : Int) < (xs.length : Int) := by rcases hc with hc | hc; exact absurd hc hbad; omega
    case' neg => simp -implicitDefEqProofs only [go_sem, seval, hb.cell, hb.frozen, hlt, hbs]
    all_goals exact ⟨rfl, st true⟩
  · have hb0 : s.bad = false := by cases hq : s.bad; rfl; exact absurd (.inl hq) hc
    have hlt : ¬ (128 : Int) < (xs.length : Int) := fun e => hc (.inr (by omega))
    have hr : wlist one xs s = xs.foldl (fun s x => one x s) (wnum xs.length ⟨s.b, false⟩) := by unfold wlist; rw [if_neg hc]; rfl
    rw [hr]
    have hbs : (w.setCell (At g 1) (.bool false)).cell? (At g 1) = some (.bool false) := (hb.set 1 (.bool false)).cell 1
    rw [hb0] at hb
    have e1 : IntKind.u64.wrap (xs.length : Int) = xs.length := u64_nat (by omega) (by omega)
    simp -implicitDefEqProofs only [go_sem, seval, hb.cell, hb.frozen, hlt, hbs, e1]
    refine (wnum_calls (n := xs.length) (by omega) (st false).1 (by show s.b.length + 10 ≤ _; omega)).mono ?_
    rintro v w2 ⟨rfl, hw2, f2⟩
    have j2 := hJ _ _ (hJ _ _ j (st false).2) f2
    have f2 := Wm.tr (st false).2 f2
    have hx2 := hx.fx f2 (fun k hk => Wm.low h1 (hU k hk))
    have hlv : (wnum xs.length ⟨s.b, false⟩).b.length ≤ s.b.length + 10 := by
      have := vput_u64 (n := xs.length) (by omega)
      show (s.b ++ vput xs.length).length ≤ _
      rw [List.length_append]; omega
    generalize wnum xs.length ⟨s.b, false⟩ = s2 at *
    have hBm : xs.length * B ≤ 128 * B := Nat.mul_le_mul_right _ (by omega)
    simp -implicitDefEqProofs only [go_sem, seval]
    refine loop_intro (fun q f w' => ∃ (i : Nat) (s' : WS), q = xs.length - i ∧ i ≤ xs.length ∧ f 0 = .pointer (some (At g 0)) ∧ f 2 = .func (.func F) first cap ∧ f 29 = .slice A xs.length c ∧ f 30 = .int .i64 xs.length ∧ f 31 = .int .i64 i ∧
        xs.foldl (fun s x => one x s) s2 = (xs.drop i).foldl (fun s x => one x s) s' ∧ s'.b.length + (xs.length - i) * B ≤ 70368744177664 ∧ WrS 96 5 w' g lo s' ∧ J w' ∧ Fx (Wm 5 w g lo) w w') xs.length
      ⟨0, s2, rfl, by omega, by simp -implicitDefEqProofs only [go_sem, seval], by simp -implicitDefEqProofs only [go_sem, seval], by simp -implicitDefEqProofs only [go_sem, seval], by simp -implicitDefEqProofs only [go_sem, seval], by simp -implicitDefEqProofs only [go_sem, seval] <;> rfl, rfl, by rw [Nat.sub_zero]; omega, hw2, j2, f2⟩ ?_
    rintro q f w3 ⟨i, s', rfl, hi, g0, g2, g29, g30, g31, hfold, hb3, hw3, j3, f3⟩
    by_cases hlt : i < xs.length
    · have i0 : (0 : Int) ≤ (i : Int) := by omega
      have i1 : (i : Int) < (xs.length : Int) := by omega
      have en : IntKind.i64.wrap ((i : Int) + 1) = ((i + 1 : Nat) : Int) := i64_nat (by omega) (by omega)
      obtain ⟨x, ex⟩ : ∃ x, xs[i]? = some x := ⟨_, List.getElem?_eq_getElem hlt⟩
      have hx3 := hx.fx f3 (fun k hk => Wm.low h1 (hU k hk))
      have hdr : xs.drop i = x :: xs.drop (i + 1) := by
        rw [List.drop_eq_getElem_cons hlt]
        rw [List.getElem?_eq_getElem hlt] at ex
        cases ex; rfl
      rw [hdr, List.foldl_cons] at hfold
      have hsub : (xs.length - i) * B = B + (xs.length - (i + 1)) * B := by
        rw [show xs.length - i = (xs.length - (i + 1)) + 1 by omega, Nat.succ_mul]; omega
      obtain ⟨ad, rfl, hU3, vs, hr, hc3⟩ := hx3 i x ex
      have hvs : vs = [.int .i32 x] := hr.1
      have hc4 := hc3 0 (.int .i32 x) (by rw [hvs]; rfl)
      simp only [Kind.int, Nat.mul_one, add_zero'] at hc4
      simp -implicitDefEqProofs only [go_sem, seval, g0, g2, g29, g30, g31, i0, i1, hc4, fnK_eq hF]
      have j4 := j3
      have f5 := f3
      have hlB := hB w3 x s' vs hr
      refine (H w3 x s' vs j3 hr hw3 (by omega) _ rfl).mono ?_
      rintro v w4 ⟨rfl, hw4, f4⟩
      simp -implicitDefEqProofs only [go_sem, seval, g0, g2, g29, g30, g31, en]
      exact ⟨xs.length - (i + 1), by omega, i + 1, one x s', rfl, by omega, by simp -implicitDefEqProofs only [go_sem, seval, g0], by simp -implicitDefEqProofs only [go_sem, seval, g2], by simp -implicitDefEqProofs only [go_sem, seval, g29], by simp -implicitDefEqProofs only [go_sem, seval, g30], by simp -implicitDefEqProofs only [go_sem, seval], hfold, by omega, hw4, hJ _ _ j4 f4, Wm.tr f5 f4⟩
    · have i1 : ¬ (i : Int) < (xs.length : Int) := by omega
      have hz : xs.drop i = [] := List.drop_of_length_le (by omega)
      rw [hz] at hfold
      simp -implicitDefEqProofs only [go_sem, seval, g0, g2, g29, g30, g31, i1]
      refine ⟨rfl, ?_, f3⟩
      rw [hfold]; exact hw3
theorem wlistStr_calls {one : ByteArray → WS → WS} {B : Nat} {U : Nat → Prop} {J : World → Prop} {w : World} {g lo : Nat} {s : WS} {F : Nat} {first cap : Array Value} {xs : List ByteArray} {A : Option Addr} {c : Nat} (hF : hasBody Try.prog F = true)
    (hJ : ∀ w1 w2, J w1 → Fx (Wm 5 w1 g lo) w1 w2 → J w2) (hU : ∀ k, U k → k < lo)
    (H : ∀ (w : World) (x : ByteArray) (s : WS) (vs : List Value), J w → Kind.str.rep U w x vs → WrS 96 5 w g lo s → s.b.length + B ≤ 70368744177664 → ∀ v, v = (.string x) → callK Try.prog F (first ++ #[v] ++ cap) w (Wrote w g lo (one x s)))
    (hB : ∀ (w : World) (x : ByteArray) (s : WS) (vs : List Value), Kind.str.rep U w x vs → (one x s).b.length ≤ s.b.length + B)
    (hx : Elems Kind.str U w A xs) (hxl : xs.length ≤ 9223372036854775807) (j : J w) (h : WrS 96 5 w g lo s) (hs : s.b.length + (10 + 128 * B) ≤ 70368744177664) :
    callK Try.prog 80 #[.pointer (some (At g 0)), .slice A xs.length c, .func (.func F) first cap] w (Wrote w g lo (wlist one xs s)) := by
  refine callK_of Try.func80 c80 r80 (by exact Nat.le_of_ble_eq_true rfl) ?_
  rw [m80]
  obtain ⟨h1, h2, v, hb, ho⟩ := id h
  have hne := ho.ne hb (by decide)
  have st : ∀ q : Bool, WrS 96 5 (w.setCell (At g 1) (.bool q)) g lo ⟨s.b, q⟩ ∧ Fx (Wm 5 w g lo) w (w.setCell (At g 1) (.bool q)) := fun q =>
    ⟨⟨h1, h2, v, hb.set 1 (.bool q), ho.fx (Fx.set (m := only g) _ _ _ rfl) fun k hk e => hne (by rw [← hk, e])⟩, Fx.set _ _ _ (.inl rfl)⟩
  by_cases hc : s.bad = true ∨ 128 < xs.length
  · have hr : wlist one xs s = ⟨s.b, true⟩ := by unfold wlist; rw [if_pos hc]
    rw [hr]
    have hbs : (w.setCell (At g 1) (.bool true)).cell? (At g 1) = some (.bool true) := (hb.set 1 (.bool true)).cell 1
    by_cases hbad : s.bad = true
    case' pos => rw [hbad] at hb
    case' pos => simp -implicitDefEqProofs only [go_sem, seval, hb.cell, hb.frozen, hbs]
    case' neg => have hb0 : s.bad = false := by simpa using hbad
    case' neg => rw [hb0] at hb
    case' neg => have hlt : (128 : Int) < (xs.length : Int) := by rcases hc with hc | hc; exact absurd hc hbad; omega
    case' neg => simp -implicitDefEqProofs only [go_sem, seval, hb.cell, hb.frozen, hlt, hbs]
    all_goals exact ⟨rfl, st true⟩
  · have hb0 : s.bad = false := by cases hq : s.bad; rfl; exact absurd (.inl hq) hc
    have hlt : ¬ (128 : Int) < (xs.length : Int) := fun e => hc (.inr (by omega))
    have hr : wlist one xs s = xs.foldl (fun s x => one x s) (wnum xs.length ⟨s.b, false⟩) := by unfold wlist; rw [if_neg hc]; rfl
    rw [hr]
    have hbs : (w.setCell (At g 1) (.bool false)).cell? (At g 1) = some (.bool false) := (hb.set 1 (.bool false)).cell 1
    rw [hb0] at hb
    have e1 : IntKind.u64.wrap (xs.length : Int) = xs.length := u64_nat (by omega) (by omega)
    simp -implicitDefEqProofs only [go_sem, seval, hb.cell, hb.frozen, hlt, hbs, e1]
    refine (wnum_calls (n := xs.length) (by omega) (st false).1 (by show s.b.length + 10 ≤ _; omega)).mono ?_
    rintro v w2 ⟨rfl, hw2, f2⟩
    have j2 := hJ _ _ (hJ _ _ j (st false).2) f2
    have f2 := Wm.tr (st false).2 f2
    have hx2 := hx.fx f2 (fun k hk => Wm.low h1 (hU k hk))
    have hlv : (wnum xs.length ⟨s.b, false⟩).b.length ≤ s.b.length + 10 := by
      have := vput_u64 (n := xs.length) (by omega)
      show (s.b ++ vput xs.length).length ≤ _
      rw [List.length_append]; omega
    generalize wnum xs.length ⟨s.b, false⟩ = s2 at *
    have hBm : xs.length * B ≤ 128 * B := Nat.mul_le_mul_right _ (by omega)
    simp -implicitDefEqProofs only [go_sem, seval]
    refine loop_intro (fun q f w' => ∃ (i : Nat) (s' : WS), q = xs.length - i ∧ i ≤ xs.length ∧ f 0 = .pointer (some (At g 0)) ∧ f 2 = .func (.func F) first cap ∧ f 29 = .slice A xs.length c ∧ f 30 = .int .i64 xs.length ∧ f 31 = .int .i64 i ∧
        xs.foldl (fun s x => one x s) s2 = (xs.drop i).foldl (fun s x => one x s) s' ∧ s'.b.length + (xs.length - i) * B ≤ 70368744177664 ∧ WrS 96 5 w' g lo s' ∧ J w' ∧ Fx (Wm 5 w g lo) w w') xs.length
      ⟨0, s2, rfl, by omega, by simp -implicitDefEqProofs only [go_sem, seval], by simp -implicitDefEqProofs only [go_sem, seval], by simp -implicitDefEqProofs only [go_sem, seval], by simp -implicitDefEqProofs only [go_sem, seval], by simp -implicitDefEqProofs only [go_sem, seval] <;> rfl, rfl, by rw [Nat.sub_zero]; omega, hw2, j2, f2⟩ ?_
    rintro q f w3 ⟨i, s', rfl, hi, g0, g2, g29, g30, g31, hfold, hb3, hw3, j3, f3⟩
    by_cases hlt : i < xs.length
    · have i0 : (0 : Int) ≤ (i : Int) := by omega
      have i1 : (i : Int) < (xs.length : Int) := by omega
      have en : IntKind.i64.wrap ((i : Int) + 1) = ((i + 1 : Nat) : Int) := i64_nat (by omega) (by omega)
      obtain ⟨x, ex⟩ : ∃ x, xs[i]? = some x := ⟨_, List.getElem?_eq_getElem hlt⟩
      have hx3 := hx.fx f3 (fun k hk => Wm.low h1 (hU k hk))
      have hdr : xs.drop i = x :: xs.drop (i + 1) := by
        rw [List.drop_eq_getElem_cons hlt]
        rw [List.getElem?_eq_getElem hlt] at ex
        cases ex; rfl
      rw [hdr, List.foldl_cons] at hfold
      have hsub : (xs.length - i) * B = B + (xs.length - (i + 1)) * B := by
        rw [show xs.length - i = (xs.length - (i + 1)) + 1 by omega, Nat.succ_mul]; omega
      obtain ⟨ad, rfl, hU3, vs, hr, hc3⟩ := hx3 i x ex
      have hvs : vs = [.string x] := hr.1
      have hc4 := hc3 0 (.string x) (by rw [hvs]; rfl)
      simp only [Kind.str, Nat.mul_one, add_zero'] at hc4
      simp -implicitDefEqProofs only [go_sem, seval, g0, g2, g29, g30, g31, i0, i1, hc4, fnK_eq hF]
      have j4 := j3
      have f5 := f3
      have hlB := hB w3 x s' vs hr
      refine (H w3 x s' vs j3 hr hw3 (by omega) _ rfl).mono ?_
      rintro v w4 ⟨rfl, hw4, f4⟩
      simp -implicitDefEqProofs only [go_sem, seval, g0, g2, g29, g30, g31, en]
      exact ⟨xs.length - (i + 1), by omega, i + 1, one x s', rfl, by omega, by simp -implicitDefEqProofs only [go_sem, seval, g0], by simp -implicitDefEqProofs only [go_sem, seval, g2], by simp -implicitDefEqProofs only [go_sem, seval, g29], by simp -implicitDefEqProofs only [go_sem, seval, g30], by simp -implicitDefEqProofs only [go_sem, seval], hfold, by omega, hw4, hJ _ _ j4 f4, Wm.tr f5 f4⟩
    · have i1 : ¬ (i : Int) < (xs.length : Int) := by omega
      have hz : xs.drop i = [] := List.drop_of_length_le (by omega)
      rw [hz] at hfold
      simp -implicitDefEqProofs only [go_sem, seval, g0, g2, g29, g30, g31, i1]
      refine ⟨rfl, ?_, f3⟩
      rw [hfold]; exact hw3
end Go.Proofs.Ytnlibeaainbipaa.F
