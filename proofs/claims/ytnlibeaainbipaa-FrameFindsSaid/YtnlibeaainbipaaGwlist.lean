/- Items and changes, written. Conditions: the data lies in blocks that stand before the writer. -/
import Derived.Test.YtnlibeaainbipaaGwrite
import Derived.Test.YtnlibeaainbipaaGitem
namespace Go.Proofs.Ytnlibeaainbipaa.F
open Go.RowKit Go.Proofs.Ytnlibeaainbipaa.M Go.Proofs.Ytnlibeaainbipaa.V
set_option linter.unusedSimpArgs false
set_option linter.unusedVariables false
set_option maxRecDepth 20000

theorem allOne_of : ∀ {vs : List Value}, (∀ v ∈ vs, v.oneCell' = true) → allOne vs = true
  | [], _ => rfl
  | v :: vs, h => by
    rw [allOne_cons, h v (by simp), allOne_of (fun u hu => h u (by simp [hu]))]; rfl
theorem wlistChange_calls {one : MChange → WS → WS} {B : Nat} {U : Nat → Prop} {J : World → Prop} {w : World} {g lo : Nat} {s : WS} {F : Nat} {first cap : Array Value} {xs : List MChange} {A : Option Addr} {c : Nat} (hF : hasBody Try.prog F = true)
    (hJ : ∀ w1 w2, J w1 → Fx (Wm 5 w1 g lo) w1 w2 → J w2) (hU : ∀ k, U k → k < lo)
    (H : ∀ (w : World) (x : MChange) (s : WS) (vs : List Value), J w → kChange.rep U w x vs → WrS 96 5 w g lo s → s.b.length + B ≤ 70368744177664 → ∀ v, v = (.agg vs.toArray) → callK Try.prog F (first ++ #[v] ++ cap) w (Wrote w g lo (one x s)))
    (hB : ∀ (w : World) (x : MChange) (s : WS) (vs : List Value), kChange.rep U w x vs → (one x s).b.length ≤ s.b.length + B)
    (hx : Elems kChange U w A xs) (hxl : xs.length ≤ 9223372036854775807) (j : J w) (h : WrS 96 5 w g lo s) (hs : s.b.length + (10 + 128 * B) ≤ 70368744177664) :
    callK Try.prog 38 #[.pointer (some (At g 0)), .slice A xs.length c, .func (.func F) first cap] w (Wrote w g lo (wlist one xs s)) := by
  refine callK_of Try.func38 c38 r38 (by exact Nat.le_of_ble_eq_true rfl) ?_
  rw [m38]
  obtain ⟨h1, h2, v, hb, ho⟩ := id h
  have hne := ho.ne hb (by decide)
  have st : ∀ q : Bool, WrS 96 5 (w.setCell (At g 1) (.bool q)) g lo ⟨s.b, q⟩ ∧ Fx (Wm 5 w g lo) w (w.setCell (At g 1) (.bool q)) := fun q =>
    ⟨⟨h1, h2, v, hb.set 1 (.bool q), ho.fx (Fx.set (m := only g) _ _ _ rfl) fun k hk e => hne (by rw [← hk, e])⟩, Fx.set _ _ _ (.inl rfl)⟩
  by_cases hc : s.bad = true ∨ 128 < xs.length
  · have hr : wlist one xs s = ⟨s.b, true⟩ := by unfold wlist; rw [if_pos hc]
    rw [hr]
    have hbs : (w.setCell (At g 1) (.bool true)).cell? (At g 1) = some (.bool true) := (hb.set 1 (.bool true)).cell 1
    by_cases hbad : s.bad = true
    case' pos => rw [hbad] at hb
    case' pos => simp -implicitDefEqProofs only [go_sem, seval, hb.cell, hb.frozen, hbs]
    case' neg => have hb0 : s.bad = false := by simpa using hbad
    case' neg => rw [hb0] at hb
    case' neg => have hlt : (128 : Int) < (xs.length : Int) := by rcases hc with hc | hc; exact absurd hc hbad; omega
    case' neg => simp -implicitDefEqProofs only [go_sem, seval, hb.cell, hb.frozen, hlt, hbs]
    all_goals exact ⟨rfl, st true⟩
  · have hb0 : s.bad = false := by cases hq : s.bad; rfl; exact absurd (.inl hq) hc
    have hlt : ¬ (128 : Int) < (xs.length : Int) := fun e => hc (.inr (by omega))
    have hr : wlist one xs s = xs.foldl (fun s x => one x s) (wnum xs.length ⟨s.b, false⟩) := by unfold wlist; rw [if_neg hc]; rfl
    rw [hr]
    have hbs : (w.setCell (At g 1) (.bool false)).cell? (At g 1) = some (.bool false) := (hb.set 1 (.bool false)).cell 1
    rw [hb0] at hb
    have e1 : IntKind.u64.wrap (xs.length : Int) = xs.length := u64_nat (by omega) (by omega)
    simp -implicitDefEqProofs only [go_sem, seval, hb.cell, hb.frozen, hlt, hbs, e1]
    refine (wnum_calls (n := xs.length) (by omega) (st false).1 (by show s.b.length + 10 ≤ _; omega)).mono ?_
    rintro v w2 ⟨rfl, hw2, f2⟩
    have j2 := hJ _ _ (hJ _ _ j (st false).2) f2
    have f2 := Wm.tr (st false).2 f2
    have hx2 := hx.fx f2 (fun k hk => Wm.low h1 (hU k hk))
    have hlv : (wnum xs.length ⟨s.b, false⟩).b.length ≤ s.b.length + 10 := by
      have := vput_u64 (n := xs.length) (by omega)
      show (s.b ++ vput xs.length).length ≤ _
      rw [List.length_append]; omega
    generalize wnum xs.length ⟨s.b, false⟩ = s2 at *
    have hBm : xs.length * B ≤ 128 * B := Nat.mul_le_mul_right _ (by omega)
    simp -implicitDefEqProofs only [go_sem, seval]
    refine loop_intro (fun q f w' => ∃ (i : Nat) (s' : WS), q = xs.length - i ∧ i ≤ xs.length ∧ f 0 = .pointer (some (At g 0)) ∧ f 2 = .func (.func F) first cap ∧ f 29 = .slice A xs.length c ∧ f 30 = .int .i64 xs.length ∧ f 31 = .int .i64 i ∧
        xs.foldl (fun s x => one x s) s2 = (xs.drop i).foldl (fun s x => one x s) s' ∧ s'.b.length + (xs.length - i) * B ≤ 70368744177664 ∧ WrS 96 5 w' g lo s' ∧ J w' ∧ Fx (Wm 5 w g lo) w w') xs.length
      ⟨0, s2, rfl, by omega, by simp -implicitDefEqProofs only [go_sem, seval], by simp -implicitDefEqProofs only [go_sem, seval], by simp -implicitDefEqProofs only [go_sem, seval], by simp -implicitDefEqProofs only [go_sem, seval], by simp -implicitDefEqProofs only [go_sem, seval] <;> rfl, rfl, by rw [Nat.sub_zero]; omega, hw2, j2, f2⟩ ?_
    rintro q f w3 ⟨i, s', rfl, hi, g0, g2, g29, g30, g31, hfold, hb3, hw3, j3, f3⟩
    by_cases hlt : i < xs.length
    · have i0 : (0 : Int) ≤ (i : Int) := by omega
      have i1 : (i : Int) < (xs.length : Int) := by omega
      have en : IntKind.i64.wrap ((i : Int) + 1) = ((i + 1 : Nat) : Int) := i64_nat (by omega) (by omega)
      obtain ⟨x, ex⟩ : ∃ x, xs[i]? = some x := ⟨_, List.getElem?_eq_getElem hlt⟩
      have hx3 := hx.fx f3 (fun k hk => Wm.low h1 (hU k hk))
      have hdr : xs.drop i = x :: xs.drop (i + 1) := by
        rw [List.drop_eq_getElem_cons hlt]
        rw [List.getElem?_eq_getElem hlt] at ex
        cases ex; rfl
      rw [hdr, List.foldl_cons] at hfold
      have hsub : (xs.length - i) * B = B + (xs.length - (i + 1)) * B := by
        rw [show xs.length - i = (xs.length - (i + 1)) + 1 by omega, Nat.succ_mul]; omega
      obtain ⟨ad, rfl, hU3, vs, hr, hc3⟩ := hx3 i x ex
      have hvl : vs.length = 4 := kChange.len hr
      have hld := ldV_agg (P := Try.prog) sh91 hvl hc3
      have hks : kChange.sz = 4 := rfl
      rw [hks] at hld
      have hall : allOne vs = true := allOne_of (kChange.one hr)
      have hbx : Blk _ _ _ _ := Blk.new w3 91 #[.bool false, .int .u32 0, .slice none 0 0, .slice none 0 0]
      have S0 := stB (P := Try.prog) (o := 0) sz91 hbx (by decide) vs hvl hall
      have L0 := ldP (P := Try.prog) sh91 hbx rfl vs hvl
      simp -implicitDefEqProofs only [go_sem, seval, g0, g2, g29, g30, g31, i0, i1, hld, S0, L0, fnK_eq hF]
      have kA : Keep w3 (w3.alloc (.cells #[.bool false, .int .u32 0, .slice none 0 0, .slice none 0 0] 91)) := Fx.alloc _ _ _
      have kP : Fx (only w3.heap.size) (w3.alloc (.cells #[.bool false, .int .u32 0, .slice none 0 0, .slice none 0 0] 91)) (putW (w3.alloc (.cells #[.bool false, .int .u32 0, .slice none 0 0, .slice none 0 0] 91)) w3.heap.size 0 vs) := Fx.put _ _ _ _ rfl
      have k5 : Keep w3 _ := kA.new kP (fun k e hk => by have : k = w3.heap.size := e; omega)
      generalize putW (w3.alloc (.cells #[.bool false, .int .u32 0, .slice none 0 0, .slice none 0 0] 91)) w3.heap.size 0 vs = w5 at *
      have j4 := hJ _ _ j3 (k5.fx _)
      have f5 := Wm.tr f3 (k5.fx _)
      have hr5 := kChange.keep hr k5
      have hlB := hB w5 x s' vs hr5
      refine (H w5 x s' vs j4 hr5 (hw3.keep k5) (by omega) _ rfl).mono ?_
      rintro v w4 ⟨rfl, hw4, f4⟩
      simp -implicitDefEqProofs only [go_sem, seval, g0, g2, g29, g30, g31, en]
      exact ⟨xs.length - (i + 1), by omega, i + 1, one x s', rfl, by omega, by simp -implicitDefEqProofs only [go_sem, seval, g0], by simp -implicitDefEqProofs only [go_sem, seval, g2], by simp -implicitDefEqProofs only [go_sem, seval, g29], by simp -implicitDefEqProofs only [go_sem, seval, g30], by simp -implicitDefEqProofs only [go_sem, seval], hfold, by omega, hw4, hJ _ _ j4 f4, Wm.tr f5 f4⟩
    · have i1 : ¬ (i : Int) < (xs.length : Int) := by omega
      have hz : xs.drop i = [] := List.drop_of_length_le (by omega)
      rw [hz] at hfold
      simp -implicitDefEqProofs only [go_sem, seval, g0, g2, g29, g30, g31, i1]
      refine ⟨rfl, ?_, f3⟩
      rw [hfold]; exact hw3

section
variable {w : World} {g lo : Nat} {s : WS}
theorem wvec1_calls {bx : Nat} {x : Int} (hx : -2147483648 ≤ x ∧ x ≤ 2147483647) (hbx : Blk w bx 94 #[.pointer (some (At g 0))]) (h : WrS 96 5 w g lo s) (hl : s.b.length + 10 ≤ 70368744177664) :
    callK Try.prog 64 #[.int .i32 x, .pointer (some (At bx 0))] w (Wrote w g lo (wint x s)) := by
  refine callK_of Try.func64 c64 r64 (by exact Nat.le_of_ble_eq_true rfl) ?_
  rw [m64]
  obtain ⟨h1, h2, v, hb, ho⟩ := h
  have hbd : Blk w.drew g 96 #[v, .bool s.bad] := hb
  have hxd : Blk w.drew bx 94 #[.pointer (some (At g 0))] := hbx
  have hod : OwnI 5 .u8 lo w.drew v s.b := ho
  have f0 : Keep w w.drew := Fx.drew _ _
  have e1 : IntKind.i64.wrap x = x := by rw [i64_w, w64_id (by omega) (by omega)]
  simp -implicitDefEqProofs only [go_sem, seval]
  generalize w.drew = wd at *
  obtain ⟨A, c, rfl, hc, _⟩ := hod.slice
  refine seg_intro (fun w' => Blk w' g 96 #[.slice A s.b.length c, .bool s.bad] ∧ Blk w' bx 94 #[.pointer (some (At g 0))]) ⟨hbd, hxd⟩ ?_
  simp -implicitDefEqProofs only [go_sem, seval]
  refine hld_intro (.pointer (some (At g 0))) ⟨hbd, hxd⟩ (fun w' hw' => by have := hw'.2.cell 0; simp -implicitDefEqProofs only [go_sem, seval, this]; exact ⟨trivial, trivial⟩) ?_
  simp -implicitDefEqProofs only [go_sem, seval]
  refine hld_intro (.pointer (some (At g 0))) ⟨hbd, hxd⟩ (fun w' hw' => by have := hw'.2.cell 0; simp -implicitDefEqProofs only [go_sem, seval, this]; exact ⟨trivial, trivial⟩) ?_
  simp -implicitDefEqProofs only [go_sem, seval]
  refine hld_intro (.slice A s.b.length c) ⟨hbd, hxd⟩ (fun w' hw' => by have := hw'.1.cell 0; simp -implicitDefEqProofs only [go_sem, seval, this]; exact ⟨trivial, trivial⟩) ?_
  simp -implicitDefEqProofs only [go_sem, seval, e1]
  refine (putInt_calls (by omega) (by omega) wd).mono ?_
  rintro v w2 ⟨o2, k2⟩
  have hb2 := k2.blk hbd (fun x => x)
  have hx2 := k2.blk hxd (fun x => x)
  refine goE_intro ⟨hb2, hx2⟩ ?_
  obtain ⟨A2, c2, rfl, hc2, r2⟩ := o2.slice
  have ho2 := hod.fx k2 (fun _ _ x => x)
  have hv := vput_u64 (n := zig x) (zig_lt (by omega) (by omega))
  have hlt := hb2.lt
  simp -implicitDefEqProofs only [go_sem, seval]
  refine append_own ie8 (by decide) ho2 r2 (by omega) (by omega) ?_
  intro v4 w4 o4 hf _
  have hne := ho2.ne hb2 (by decide)
  have hb4 := hf.blk hb2 (fun e => hne e.symm)
  have hx4 := hf.blk hx2 (fun e => ho2.ne hx2 (by decide) e.symm)
  obtain ⟨A4, c4, rfl, hc4, _⟩ := o4.slice
  refine goE_intro ⟨hb4, hx4⟩ ?_
  simp -implicitDefEqProofs only [go_sem, seval, hb4.cell, hb4.frozen]
  have hb5 := hb4.set 0 (.slice A4 (s.b ++ vput (zig x)).length c4)
  have hne4 := o4.ne hb4 (by decide)
  refine ⟨rfl, ⟨h1, by show (s.b ++ vput (zig x)).length ≤ _; rw [List.length_append]; omega, _, hb5, o4.fx (Fx.set (m := only g) _ _ _ rfl) fun k hk e => hne4 (by rw [← hk, e])⟩, ?_⟩
  exact Wm.ktr (f0.tr k2) (Wm.tr (hf.weaken fun k _ e => ho2.wm e) (Fx.set _ _ _ (.inl rfl)))
theorem wvec_calls {U : Nat → Prop} {A : Option Addr} {xs : List Int} {c : Nat} (hx : Elems (Kind.int .i32) U w A xs) (hU : ∀ k, U k → k < lo) (hxc : xs.length ≤ 9223372036854775807) (h : WrS 96 5 w g lo s) (hl : s.b.length + 1290 ≤ 70368744177664) :
    callK Try.prog 40 #[.pointer (some (At g 0)), .slice A xs.length c] w (Wrote w g lo (wvec xs s)) := by
  refine callK_of Try.func40 c40 r40 (by exact Nat.le_of_ble_eq_true rfl) ?_
  rw [m40]
  simp -implicitDefEqProofs only [go_sem, seval]
  have kA : Keep w (w.alloc (.cells #[.pointer (some (At g 0))] 94)) := Fx.alloc _ w _
  have hb : Blk _ _ _ _ := Blk.new w 94 #[.pointer (some (At g 0))]
  have h1 := h.keep kA
  have hg := h.lt
  have hx1 := hx.keep kA
  generalize w.alloc (.cells #[.pointer (some (At g 0))] 94) = w1 at *
  generalize hbx : w.heap.size = bx at *
  refine (wlistInt_calls (one := wint) (B := 10) (U := U) (J := fun w => Blk w bx 94 #[.pointer (some (At g 0))]) hb64 ?_ hU ?_ ?_ hx1 hxc hb h1 (by omega)).mono ?_
  · intro w2 w3 j f
    exact f.blk j (Wm.not j (by decide) (by omega))
  · rintro w2 x s2 vs j hr h2 hl2 v rfl
    exact wvec1_calls (unI32 hr.2) j h2 hl2
  · intro w2 x s2 vs hr
    have := unI32 hr.2
    exact (wr_int (h0 := by decide) (h1 := by decide)).len x s2 this
  rintro v w2 ⟨rfl, h2, f2⟩
  simp -implicitDefEqProofs only [go_sem, seval]
  exact ⟨rfl, h2, Wm.ktr kA f2⟩
theorem wtexts_calls {U : Nat → Prop} {A : Option Addr} {xs : List ByteArray} {c : Nat} (hx : Elems Kind.str U w A xs) (hU : ∀ k, U k → k < lo) (hxc : xs.length ≤ 9223372036854775807) (h : WrS 96 5 w g lo s) (hl : s.b.length + 525578 ≤ 70368744177664) :
    callK Try.prog 66 #[.pointer (some (At g 0)), .slice A xs.length c] w (Wrote w g lo (wtexts xs s)) := by
  refine callK_of Try.func66 c66 r66 (by exact Nat.le_of_ble_eq_true rfl) ?_
  rw [m66]
  simp -implicitDefEqProofs only [go_sem, seval]
  refine (wlistStr_calls (one := wtext) (B := 4106) (U := U) (J := fun _ => True) hb36 (fun _ _ _ _ => trivial) hU ?_ ?_ hx hxc trivial h (by omega)).mono ?_
  · rintro w2 x s2 vs j hr h2 hl2 v rfl
    exact wtext_calls x hr.2 h2 hl2
  · intro w2 x s2 vs hr
    exact wr_text.len x s2 trivial
  rintro v w2 ⟨rfl, h2, f2⟩
  simp -implicitDefEqProofs only [go_sem, seval]
  exact ⟨rfl, h2, f2⟩
theorem witem_calls {U : Nat → Prop} {x : MItem} {cs : List Value} (hx : kItem.rep U w x cs) (hU : ∀ k, U k → k < lo) (h : WrS 96 5 w g lo s) (hl : s.b.length + 526878 ≤ 70368744177664) :
    callK Try.prog 62 #[.pointer (some (At g 0)), .agg cs.toArray] w (Wrote w g lo (witem x s)) := by
  refine callK_of Try.func62 c62 r62 (by exact Nat.le_of_ble_eq_true rfl) ?_
  rw [m62]
  obtain ⟨A, c, B, d, rfl, hi, hl1, hc1, he1, hl2, hc2, he2⟩ := kItem_cases hx
  obtain ⟨i0, i1⟩ := unU32 hi
  have e1 : IntKind.u64.wrap x.id = x.id := by
    obtain ⟨n, hn⟩ := Int.eq_ofNat_of_zero_le i0
    rw [hn]; exact u64_nat (by omega) (by omega)
  have kA : Keep w (w.alloc (.cells #[.int .u32 x.id, .slice A x.vec.length c, .slice B x.tags.length d] 58)) := Fx.alloc _ w _
  have hb : Blk _ _ _ _ := Blk.new w 58 #[.int .u32 x.id, .slice A x.vec.length c, .slice B x.tags.length d]
  have hg := h.lt
  simp -implicitDefEqProofs only [go_sem, seval, hb.cell, e1]
  have h1 := h.keep kA
  have he1 := he1.keep kA
  have he2 := he2.keep kA
  generalize w.alloc (.cells #[.int .u32 x.id, .slice A x.vec.length c, .slice B x.tags.length d] 58) = w1 at *
  generalize hbx : w.heap.size = bx at *
  have ni := wr_num (most := 4294967295) (hm := by decide) |>.len x.id s ⟨i0, i1⟩
  have n2 := wr_vec.len x.vec (wnum x.id.toNat s) (fun n hn => by
    obtain ⟨j, hj, e⟩ := List.mem_iff_getElem.1 hn
    obtain ⟨_, _, _, _, hr, _⟩ := he1 j n (by rw [List.getElem?_eq_getElem hj, e])
    exact unI32 hr.2)
  obtain ⟨n, hn⟩ := Int.eq_ofNat_of_zero_le i0
  have hn2 : x.id.toNat = n := by omega
  unfold witem
  rw [hn2] at ni n2 ⊢
  rw [hn]
  refine (wnum_calls (n := n) (by omega) h1 (by omega)).mono ?_
  rintro v w2 ⟨rfl, h2, f2⟩
  have hb2 := f2.blk hb (Wm.not hb (by decide) (by omega))
  simp -implicitDefEqProofs only [go_sem, seval, hb2.cell]
  refine (wvec_calls (he1.fx f2 fun k hk => Wm.low hg.1 (hU k hk)) hU (by simp only [maxLen] at hc1; omega) h2 (by omega)).mono ?_
  rintro v w3 ⟨rfl, h3, f3⟩
  have hb3 := f3.blk hb2 (Wm.not hb2 (by decide) (by omega))
  have f3 := Wm.tr f2 f3
  simp -implicitDefEqProofs only [go_sem, seval, hb3.cell]
  refine (wtexts_calls (he2.fx f3 fun k hk => Wm.low hg.1 (hU k hk)) hU (by simp only [maxLen] at hc2; omega) h3 (by omega)).mono ?_
  rintro v w4 ⟨rfl, h4, f4⟩
  simp -implicitDefEqProofs only [go_sem, seval]
  exact ⟨rfl, h4, Wm.ktr kA (Wm.tr f3 f4)⟩
theorem wchange_calls {U : Nat → Prop} {x : MChange} {cs : List Value} (hx : kChange.rep U w x cs) (hU : ∀ k, U k → k < lo) (h : WrS 96 5 w g lo s) (hl : s.b.length + 526888 ≤ 70368744177664) :
    callK Try.prog 39 #[.pointer (some (At g 0)), .agg cs.toArray] w (Wrote w g lo (wchange x s)) := by
  refine callK_of Try.func39 c39 r39 (by exact Nat.le_of_ble_eq_true rfl) ?_
  rw [m39]
  obtain ⟨cs', rfl, hit⟩ := kChange_cases hx
  obtain ⟨A, c, B, d, rfl, hi, hl1, hc1, he1, hl2, hc2, he2⟩ := kItem_cases hit
  obtain ⟨i0, i1⟩ := unU32 hi
  have kA : Keep w (w.alloc (.cells #[.bool x.gone, .int .u32 x.item.id, .slice A x.item.vec.length c, .slice B x.item.tags.length d] 91)) := Fx.alloc _ w _
  have hb : Blk _ _ _ _ := Blk.new w 91 #[.bool x.gone, .int .u32 x.item.id, .slice A x.item.vec.length c, .slice B x.item.tags.length d]
  have hg := h.lt
  simp -implicitDefEqProofs only [go_sem, seval, hb.cell]
  have h1 := h.keep kA
  generalize w.alloc (.cells #[.bool x.gone, .int .u32 x.item.id, .slice A x.item.vec.length c, .slice B x.item.tags.length d] 91) = w1 at *
  generalize hbx : w.heap.size = bx at *
  have n1 := wr_flag.len x.gone s trivial
  refine (wflag_calls x.gone h1 (by omega)).mono ?_
  rintro v w2 ⟨rfl, h2, f2⟩
  have hb2 := f2.blk hb (Wm.not hb (by decide) (by omega))
  unfold wchange
  cases hgo : x.gone with
  | true =>
    rw [hgo] at hb2 h2 n1
    rw [if_pos rfl]
    obtain ⟨n, hn⟩ := Int.eq_ofNat_of_zero_le i0
    have hn2 : x.item.id.toNat = n := by omega
    have e1 : IntKind.u64.wrap x.item.id = (n : Int) := by rw [hn]; exact u64_nat (by omega) (by omega)
    have ni := wr_num (most := 4294967295) (hm := by decide) |>.len x.item.id (wflag true s) ⟨i0, i1⟩
    rw [hn2] at ni ⊢
    simp -implicitDefEqProofs only [go_sem, seval, hb2.cell, e1]
    refine (wnum_calls (n := n) (by omega) h2 (by omega)).mono ?_
    rintro v w3 ⟨rfl, h3, f3⟩
    have hb3 := f3.blk hb2 (Wm.not hb2 (by decide) (by omega))
    have f3 := Wm.ktr kA (Wm.tr f2 f3)
    generalize wnum n (wflag true s) = s3 at *
    obtain ⟨g1, l3, v3, hw3, ho3⟩ := h3
    have hne := ho3.ne hw3 (by decide)
    have fin : ∀ q : Bool, q = (s3.bad || (decide (0 < x.item.vec.length) || decide (0 < x.item.tags.length))) → Wrote w g lo (wor (decide (0 < x.item.vec.length) || decide (0 < x.item.tags.length)) s3) (.tuple #[]) (w3.setCell (At g 1) (.bool q)) := by
      rintro q rfl
      exact ⟨rfl, ⟨g1, l3, v3, hw3.set 1 _, ho3.fx (Fx.set (m := only g) _ _ _ rfl) fun k hk e => hne (by rw [← hk, e])⟩, Wm.tr f3 (Fx.set _ _ _ (.inl rfl))⟩
    cases hbad : s3.bad with
    | true =>
      rw [hbad] at hw3 fin
      simp -implicitDefEqProofs only [go_sem, seval, hb3.cell, hw3.cell, hw3.frozen]
      exact fin true rfl
    | false =>
      rw [hbad] at hw3 fin
      by_cases q1 : 0 < x.item.vec.length
      · have z1 : (0 : Int) < (x.item.vec.length : Int) := by omega
        simp -implicitDefEqProofs only [go_sem, seval, hb3.cell, hw3.cell, hw3.frozen, z1]
        exact fin true (by simp [q1])
      · have z1 : ¬ (0 : Int) < (x.item.vec.length : Int) := by omega
        by_cases q2 : 0 < x.item.tags.length
        · have z2 : (0 : Int) < (x.item.tags.length : Int) := by omega
          simp -implicitDefEqProofs only [go_sem, seval, hb3.cell, hw3.cell, hw3.frozen, z1, z2]
          exact fin true (by simp [q2])
        · have z2 : ¬ (0 : Int) < (x.item.tags.length : Int) := by omega
          simp -implicitDefEqProofs only [go_sem, seval, hb3.cell, hw3.cell, hw3.frozen, z1, z2]
          exact fin false (by simp [q1, q2])
  | false =>
    rw [hgo] at hb2 h2 n1
    rw [if_neg (by simp)]
    have hld := ldV_agg (P := Try.prog) (w := w2) sh58 (cs := [.int .u32 x.item.id, .slice A x.item.vec.length c, .slice B x.item.tags.length d]) rfl (ad := At bx 1) (by
      have := (hb2.cells).drop 1
      rw [at_add] at this
      exact this)
    simp -implicitDefEqProofs only [go_sem, seval, hb2.cell, hld]
    refine (witem_calls (kItem.fx (kItem.keep hit kA) f2 fun k hk => Wm.low hg.1 (hU k hk)) hU h2 (by omega)).mono ?_
    rintro v w3 ⟨rfl, h3, f3⟩
    simp -implicitDefEqProofs only [go_sem, seval]
    exact ⟨rfl, h3, Wm.ktr kA (Wm.tr f2 f3)⟩
theorem done_calls (h : WrS 96 5 w g lo s) :
    callK Try.prog 30 #[.pointer (some (At g 0))] w fun v w' => w' = w ∧ (s.bad = true → v = .tuple #[.slice none 0 0, .bool false]) ∧ (s.bad = false → ∃ v1, v = .tuple #[v1, .bool true] ∧ OwnI 5 .u8 lo w v1 s.b) := by
  refine callK_of Try.func30 c30 r30 (by exact Nat.le_of_ble_eq_true rfl) ?_
  rw [m30]
  obtain ⟨h1, h2, v, hb, ho⟩ := h
  obtain ⟨A, c, rfl, hc, _⟩ := ho.slice
  cases hbad : s.bad with
  | true =>
    rw [hbad] at hb
    simp -implicitDefEqProofs only [go_sem, seval, hb.cell]
    exact ⟨trivial, fun _ => (by first | rfl | trivial), fun e => by cases e⟩
  | false =>
    rw [hbad] at hb
    simp -implicitDefEqProofs only [go_sem, seval, hb.cell]
    exact ⟨trivial, fun e => (by cases e), fun _ => ⟨_, rfl, ho⟩⟩
end
end Go.Proofs.Ytnlibeaainbipaa.F
