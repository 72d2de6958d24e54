/- A message's fields, written and taken out. Conditions: the message's box stands before the writer; what it reaches before that. -/
import Derived.Test.YtnlibeaainbipaaGwlist
import Derived.Test.YtnlibeaainbipaaGform
namespace Go.Proofs.Ytnlibeaainbipaa.V
def wconf (x : MConf) (s : WS) : WS := wnum x.width.toNat (wnum x.links.toNat (wflag x.graph (wnum x.metric.toNat (wnum x.dim.toNat (wtext x.name (wor (decide (1 < x.metric)) s))))))
def wfilter (x : MFilter) (s : WS) : WS := wtexts x.none (wtexts x.any (wtexts x.all s))
def citems : Codec (List MItem) := clist citem
def chits : Codec (List MHit) := clist chit
def witems (l : List MItem) (s : WS) : WS := wlist witem l s
def whits (l : List MHit) (s : WS) : WS := wlist whit l s
theorem wr_items : Wr citems (fun l => ∀ x ∈ l, RItem x) witems 67440394 := wr_list wr_item
theorem wr_hits : Wr chits (fun l => ∀ x ∈ l, RHit x) whits 2570 := wr_list wr_hit
/-- One field written, and taken out. -/
def wfieldP (f : Int) (p : Msg × WS) : Msg × WS := if f = 114 then ({ p.1 with req := 0 }, wnum p.1.req.toNat p.2) else if f = 99 then ({ p.1 with caps := 0 }, wnum p.1.caps.toNat p.2) else if f = 116 then ({ p.1 with token := 0 }, wnum p.1.token.toNat p.2) else if f = 101 then ({ p.1 with code := 0 }, wnum p.1.code.toNat p.2) else if f = 110 then ({ p.1 with n := 0 }, wnum p.1.n.toNat p.2) else if f = 78 then ({ p.1 with name := ⟨#[]⟩ }, wtext p.1.name p.2) else if f = 67 then ({ p.1 with conf := zConf }, wconf p.1.conf p.2) else if f = 76 then ({ p.1 with changes := [] }, wchanges p.1.changes p.2) else if f = 105 then ({ p.1 with id := 0 }, wnum p.1.id.toNat p.2) else if f = 118 then ({ p.1 with vec := [] }, wvec p.1.vec p.2) else if f = 107 then ({ p.1 with k := 0 }, wnum p.1.k.toNat p.2) else if f = 119 then ({ p.1 with width := 0 }, wnum p.1.width.toNat p.2) else if f = 102 then ({ p.1 with filter := zFilter }, wfilter p.1.filter p.2) else if f = 117 then ({ p.1 with num := 0 }, wnum p.1.num.toNat p.2) else if f = 112 then ({ p.1 with page := 0 }, wnum p.1.page.toNat p.2) else if f = 98 then ({ p.1 with bytes := [] }, wbytes p.1.bytes p.2) else if f = 86 then ({ p.1 with version := 0 }, wnum p.1.version.toNat p.2) else if f = 83 then ({ p.1 with names := [] }, wtexts p.1.names p.2) else if f = 73 then ({ p.1 with items := [] }, witems p.1.items p.2) else if f = 72 then ({ p.1 with hits := [] }, whits p.1.hits p.2) else p
end Go.Proofs.Ytnlibeaainbipaa.V
namespace Go.Proofs.Ytnlibeaainbipaa.M
open Go.RowKit Go.Proofs.Ytnlibeaainbipaa.V
theorem unU64 {n : Int} (h : (Lit.int .u64 n).wf = true) : 0 ≤ n ∧ n ≤ 18446744073709551615 := by
  simp [Lit.wf, IntKind.min, IntKind.max, IntKind.signed, IntKind.bits] at h; omega
theorem unU16 {n : Int} (h : (Lit.int .u16 n).wf = true) : 0 ≤ n ∧ n ≤ 65535 := by
  simp [Lit.wf, IntKind.min, IntKind.max, IntKind.signed, IntKind.bits] at h; omega
theorem cells_in {w : World} {g t : Nat} {cs : List Value} (h : Blk w g t cs.toArray) (o n : Nat) : CellsAt w (At g o) ((cs.drop o).take n) := by
  have h1 := (h.cells).drop o
  rw [at_add, Nat.zero_add] at h1
  intro i v hv
  rw [List.getElem?_take] at hv
  split at hv
  · exact h1 i v hv
  · cases hv
section
variable {U : Nat → Prop} {w : World}
theorem all_of {α : Type} {K : Kind α} {A : Option Addr} {xs : List α} {p : α → Prop} (he : Elems K U w A xs) (h : ∀ {x vs}, K.rep U w x vs → p x) : ∀ x ∈ xs, p x := by
  intro x hx
  obtain ⟨j, hj, e⟩ := List.mem_iff_getElem.1 hx
  obtain ⟨_, _, _, vs, hr, _⟩ := he j x (by rw [List.getElem?_eq_getElem hj, e])
  exact h hr
theorem ints_range {A : Option Addr} {xs : List Int} (he : Elems (Kind.int .i32) U w A xs) : ∀ n ∈ xs, -2147483648 ≤ n ∧ n ≤ 2147483647 := all_of he fun h => unI32 h.2
theorem item_range {x : MItem} {vs : List Value} (h : kItem.rep U w x vs) : RItem x := by
  obtain ⟨_, _, _, _, rfl, hi, _, _, hv, _⟩ := kItem_cases h
  exact ⟨unU32 hi, ints_range hv⟩
theorem change_range {x : MChange} {vs : List Value} (h : kChange.rep U w x vs) : RChange x := by
  obtain ⟨cs', rfl, hit⟩ := kChange_cases h
  exact item_range hit
theorem hit_range {x : MHit} {vs : List Value} (h : kHit.rep U w x vs) : RHit x := by
  obtain ⟨_, h1, h2⟩ := kHit_cases h
  exact ⟨unI64 h1, unU32 h2⟩
theorem changes_range {A : Option Addr} {xs : List MChange} (he : Elems kChange U w A xs) : ∀ x ∈ xs, RChange x := all_of he change_range
theorem items_range {A : Option Addr} {xs : List MItem} (he : Elems kItem U w A xs) : ∀ x ∈ xs, RItem x := all_of he item_range
theorem hits_range {A : Option Addr} {xs : List MHit} (he : Elems kHit U w A xs) : ∀ x ∈ xs, RHit x := all_of he hit_range
theorem kConf_cases {x : MConf} {cs : List Value} (h : kConf.rep U w x cs) : cs = [.string x.name, .int .u8 x.dim, .int .u8 x.metric, .bool x.graph, .int .u8 x.links, .int .u16 x.width] ∧ x.name.size ≤ maxLen ∧ (Lit.int .u8 x.dim).wf = true ∧ (Lit.int .u8 x.metric).wf = true ∧ (Lit.int .u8 x.links).wf = true ∧ (Lit.int .u16 x.width).wf = true := by
  obtain ⟨_, _, rfl, ⟨rfl, h1⟩, _, _, rfl, ⟨rfl, h2⟩, _, _, rfl, ⟨rfl, h3⟩, _, _, rfl, rfl, _, _, rfl, ⟨rfl, h4⟩, rfl, h5⟩ := h
  exact ⟨rfl, h1, h2, h3, h4, h5⟩
theorem kFilter_cases {x : MFilter} {cs : List Value} (h : kFilter.rep U w x cs) : ∃ A a B b C c, cs = [.slice A x.all.length a, .slice B x.any.length b, .slice C x.none.length c] ∧ a ≤ maxLen ∧ b ≤ maxLen ∧ c ≤ maxLen ∧ x.all.length ≤ a ∧ x.any.length ≤ b ∧ x.none.length ≤ c ∧ Elems Kind.str U w A x.all ∧ Elems Kind.str U w B x.any ∧ Elems Kind.str U w C x.none := by
  obtain ⟨_, _, rfl, h1, _, _, rfl, h2, h3⟩ := h
  obtain ⟨A, a, rfl, a1, a2, a3⟩ := list_one h1
  obtain ⟨B, b, rfl, b1, b2, b3⟩ := list_one h2
  obtain ⟨C, c, rfl, c1, c2, c3⟩ := list_one h3
  exact ⟨A, a, B, b, C, c, rfl, a2, b2, c2, a1, b1, c1, a3, b3, c3⟩
theorem zConf_rep : kConf.rep U w zConf [.string ⟨#[]⟩, .int .u8 0, .int .u8 0, .bool false, .int .u8 0, .int .u16 0] :=
  ⟨[_], _, rfl, ⟨rfl, by decide⟩, [_], _, rfl, ⟨rfl, rfl⟩, [_], _, rfl, ⟨rfl, rfl⟩, [_], _, rfl, rfl, [_], _, rfl, ⟨rfl, rfl⟩, rfl, rfl⟩
theorem zFilter_rep : kFilter.rep U w zFilter [.slice none 0 0, .slice none 0 0, .slice none 0 0] :=
  ⟨[_], _, rfl, nil_rep _ _, [_], _, rfl, nil_rep _ _, nil_rep _ _⟩
end
end Go.Proofs.Ytnlibeaainbipaa.M
namespace Go.Proofs.Ytnlibeaainbipaa.F
open Go.RowKit Go.Proofs.Ytnlibeaainbipaa.M Go.Proofs.Ytnlibeaainbipaa.V
set_option linter.unusedSimpArgs false
set_option linter.unusedVariables false
set_option maxRecDepth 20000

theorem wlistItem_calls {one : MItem → WS → WS} {B : Nat} {U : Nat → Prop} {J : World → Prop} {w : World} {g lo : Nat} {s : WS} {F : Nat} {first cap : Array Value} {xs : List MItem} {A : Option Addr} {c : Nat} (hF : hasBody Try.prog F = true)
    (hJ : ∀ w1 w2, J w1 → Fx (Wm 5 w1 g lo) w1 w2 → J w2) (hU : ∀ k, U k → k < lo)
    (H : ∀ (w : World) (x : MItem) (s : WS) (vs : List Value), J w → kItem.rep U w x vs → WrS 96 5 w g lo s → s.b.length + B ≤ 70368744177664 → ∀ v, v = (.agg vs.toArray) → callK Try.prog F (first ++ #[v] ++ cap) w (Wrote w g lo (one x s)))
    (hB : ∀ (w : World) (x : MItem) (s : WS) (vs : List Value), kItem.rep U w x vs → (one x s).b.length ≤ s.b.length + B)
    (hx : Elems kItem U w A xs) (hxl : xs.length ≤ 9223372036854775807) (j : J w) (h : WrS 96 5 w g lo s) (hs : s.b.length + (10 + 128 * B) ≤ 70368744177664) :
    callK Try.prog 67 #[.pointer (some (At g 0)), .slice A xs.length c, .func (.func F) first cap] w (Wrote w g lo (wlist one xs s)) := by
  refine callK_of Try.func67 c67 r67 (by exact Nat.le_of_ble_eq_true rfl) ?_
  rw [m67]
  obtain ⟨h1, h2, v, hb, ho⟩ := id h
  have hne := ho.ne hb (by decide)
  have st : ∀ q : Bool, WrS 96 5 (w.setCell (At g 1) (.bool q)) g lo ⟨s.b, q⟩ ∧ Fx (Wm 5 w g lo) w (w.setCell (At g 1) (.bool q)) := fun q =>
    ⟨⟨h1, h2, v, hb.set 1 (.bool q), ho.fx (Fx.set (m := only g) _ _ _ rfl) fun k hk e => hne (by rw [← hk, e])⟩, Fx.set _ _ _ (.inl rfl)⟩
  by_cases hc : s.bad = true ∨ 128 < xs.length
  · have hr : wlist one xs s = ⟨s.b, true⟩ := by unfold wlist; rw [if_pos hc]
    rw [hr]
    have hbs : (w.setCell (At g 1) (.bool true)).cell? (At g 1) = some (.bool true) := (hb.set 1 (.bool true)).cell 1
    by_cases hbad : s.bad = true
    case' pos => rw [hbad] at hb
    case' pos => simp -implicitDefEqProofs only [go_sem, seval, hb.cell, hb.frozen, hbs]
    case' neg => have hb0 : s.bad = false := by simpa using hbad
    case' neg => rw [hb0] at hb
    case' neg => have hlt : (128 : Int) < (xs.length : Int) := by rcases hc with hc | hc; exact absurd hc hbad; omega
    case' neg => simp -implicitDefEqProofs only [go_sem, seval, hb.cell, hb.frozen, hlt, hbs]
    all_goals exact ⟨rfl, st true⟩
  · have hb0 : s.bad = false := by cases hq : s.bad; rfl; exact absurd (.inl hq) hc
    have hlt : ¬ (128 : Int) < (xs.length : Int) := fun e => hc (.inr (by omega))
    have hr : wlist one xs s = xs.foldl (fun s x => one x s) (wnum xs.length ⟨s.b, false⟩) := by unfold wlist; rw [if_neg hc]; rfl
    rw [hr]
    have hbs : (w.setCell (At g 1) (.bool false)).cell? (At g 1) = some (.bool false) := (hb.set 1 (.bool false)).cell 1
    rw [hb0] at hb
    have e1 : IntKind.u64.wrap (xs.length : Int) = xs.length := u64_nat (by omega) (by omega)
    simp -implicitDefEqProofs only [go_sem, seval, hb.cell, hb.frozen, hlt, hbs, e1]
    refine (wnum_calls (n := xs.length) (by omega) (st false).1 (by show s.b.length + 10 ≤ _; omega)).mono ?_
    rintro v w2 ⟨rfl, hw2, f2⟩
    have j2 := hJ _ _ (hJ _ _ j (st false).2) f2
    have f2 := Wm.tr (st false).2 f2
    have hx2 := hx.fx f2 (fun k hk => Wm.low h1 (hU k hk))
    have hlv : (wnum xs.length ⟨s.b, false⟩).b.length ≤ s.b.length + 10 := by
      have := vput_u64 (n := xs.length) (by omega)
      show (s.b ++ vput xs.length).length ≤ _
      rw [List.length_append]; omega
    generalize wnum xs.length ⟨s.b, false⟩ = s2 at *
    have hBm : xs.length * B ≤ 128 * B := Nat.mul_le_mul_right _ (by omega)
    simp -implicitDefEqProofs only [go_sem, seval]
    refine loop_intro (fun q f w' => ∃ (i : Nat) (s' : WS), q = xs.length - i ∧ i ≤ xs.length ∧ f 0 = .pointer (some (At g 0)) ∧ f 2 = .func (.func F) first cap ∧ f 29 = .slice A xs.length c ∧ f 30 = .int .i64 xs.length ∧ f 31 = .int .i64 i ∧
        xs.foldl (fun s x => one x s) s2 = (xs.drop i).foldl (fun s x => one x s) s' ∧ s'.b.length + (xs.length - i) * B ≤ 70368744177664 ∧ WrS 96 5 w' g lo s' ∧ J w' ∧ Fx (Wm 5 w g lo) w w') xs.length
      ⟨0, s2, rfl, by omega, by simp -implicitDefEqProofs only [go_sem, seval], by simp -implicitDefEqProofs only [go_sem, seval], by simp -implicitDefEqProofs only [go_sem, seval], by simp -implicitDefEqProofs only [go_sem, seval], by simp -implicitDefEqProofs only [go_sem, seval] <;> rfl, rfl, by rw [Nat.sub_zero]; omega, hw2, j2, f2⟩ ?_
    rintro q f w3 ⟨i, s', rfl, hi, g0, g2, g29, g30, g31, hfold, hb3, hw3, j3, f3⟩
    by_cases hlt : i < xs.length
    · have i0 : (0 : Int) ≤ (i : Int) := by omega
      have i1 : (i : Int) < (xs.length : Int) := by omega
      have en : IntKind.i64.wrap ((i : Int) + 1) = ((i + 1 : Nat) : Int) := i64_nat (by omega) (by omega)
      obtain ⟨x, ex⟩ : ∃ x, xs[i]? = some x := ⟨_, List.getElem?_eq_getElem hlt⟩
      have hx3 := hx.fx f3 (fun k hk => Wm.low h1 (hU k hk))
      have hdr : xs.drop i = x :: xs.drop (i + 1) := by
        rw [List.drop_eq_getElem_cons hlt]
        rw [List.getElem?_eq_getElem hlt] at ex
        cases ex; rfl
      rw [hdr, List.foldl_cons] at hfold
      have hsub : (xs.length - i) * B = B + (xs.length - (i + 1)) * B := by
        rw [show xs.length - i = (xs.length - (i + 1)) + 1 by omega, Nat.succ_mul]; omega
      obtain ⟨ad, rfl, hU3, vs, hr, hc3⟩ := hx3 i x ex
      have hvl : vs.length = 3 := kItem.len hr
      have hld := ldV_agg (P := Try.prog) sh58 hvl hc3
      have hks : kItem.sz = 3 := rfl
      rw [hks] at hld
      have hall : allOne vs = true := allOne_of (kItem.one hr)
      have hbx : Blk _ _ _ _ := Blk.new w3 58 #[.int .u32 0, .slice none 0 0, .slice none 0 0]
      have S0 := stB (P := Try.prog) (o := 0) sz58 hbx (by decide) vs hvl hall
      have L0 := ldP (P := Try.prog) sh58 hbx rfl vs hvl
      simp -implicitDefEqProofs only [go_sem, seval, g0, g2, g29, g30, g31, i0, i1, hld, S0, L0, fnK_eq hF]
      have kA : Keep w3 (w3.alloc (.cells #[.int .u32 0, .slice none 0 0, .slice none 0 0] 58)) := Fx.alloc _ _ _
      have kP : Fx (only w3.heap.size) (w3.alloc (.cells #[.int .u32 0, .slice none 0 0, .slice none 0 0] 58)) (putW (w3.alloc (.cells #[.int .u32 0, .slice none 0 0, .slice none 0 0] 58)) w3.heap.size 0 vs) := Fx.put _ _ _ _ rfl
      have k5 : Keep w3 _ := kA.new kP (fun k e hk => by have : k = w3.heap.size := e; omega)
      generalize putW (w3.alloc (.cells #[.int .u32 0, .slice none 0 0, .slice none 0 0] 58)) w3.heap.size 0 vs = w5 at *
      have j4 := hJ _ _ j3 (k5.fx _)
      have f5 := Wm.tr f3 (k5.fx _)
      have hr5 := kItem.keep hr k5
      have hlB := hB w5 x s' vs hr5
      refine (H w5 x s' vs j4 hr5 (hw3.keep k5) (by omega) _ rfl).mono ?_
      rintro v w4 ⟨rfl, hw4, f4⟩
      simp -implicitDefEqProofs only [go_sem, seval, g0, g2, g29, g30, g31, en]
      exact ⟨xs.length - (i + 1), by omega, i + 1, one x s', rfl, by omega, by simp -implicitDefEqProofs only [go_sem, seval, g0], by simp -implicitDefEqProofs only [go_sem, seval, g2], by simp -implicitDefEqProofs only [go_sem, seval, g29], by simp -implicitDefEqProofs only [go_sem, seval, g30], by simp -implicitDefEqProofs only [go_sem, seval], hfold, by omega, hw4, hJ _ _ j4 f4, Wm.tr f5 f4⟩
    · have i1 : ¬ (i : Int) < (xs.length : Int) := by omega
      have hz : xs.drop i = [] := List.drop_of_length_le (by omega)
      rw [hz] at hfold
      simp -implicitDefEqProofs only [go_sem, seval, g0, g2, g29, g30, g31, i1]
      refine ⟨rfl, ?_, f3⟩
      rw [hfold]; exact hw3
theorem wlistHit_calls {one : MHit → WS → WS} {B : Nat} {U : Nat → Prop} {J : World → Prop} {w : World} {g lo : Nat} {s : WS} {F : Nat} {first cap : Array Value} {xs : List MHit} {A : Option Addr} {c : Nat} (hF : hasBody Try.prog F = true)
    (hJ : ∀ w1 w2, J w1 → Fx (Wm 5 w1 g lo) w1 w2 → J w2) (hU : ∀ k, U k → k < lo)
    (H : ∀ (w : World) (x : MHit) (s : WS) (vs : List Value), J w → kHit.rep U w x vs → WrS 96 5 w g lo s → s.b.length + B ≤ 70368744177664 → ∀ v, v = (.agg vs.toArray) → callK Try.prog F (first ++ #[v] ++ cap) w (Wrote w g lo (one x s)))
    (hB : ∀ (w : World) (x : MHit) (s : WS) (vs : List Value), kHit.rep U w x vs → (one x s).b.length ≤ s.b.length + B)
    (hx : Elems kHit U w A xs) (hxl : xs.length ≤ 9223372036854775807) (j : J w) (h : WrS 96 5 w g lo s) (hs : s.b.length + (10 + 128 * B) ≤ 70368744177664) :
    callK Try.prog 68 #[.pointer (some (At g 0)), .slice A xs.length c, .func (.func F) first cap] w (Wrote w g lo (wlist one xs s)) := by
  refine callK_of Try.func68 c68 r68 (by exact Nat.le_of_ble_eq_true rfl) ?_
  rw [m68]
  obtain ⟨h1, h2, v, hb, ho⟩ := id h
  have hne := ho.ne hb (by decide)
  have st : ∀ q : Bool, WrS 96 5 (w.setCell (At g 1) (.bool q)) g lo ⟨s.b, q⟩ ∧ Fx (Wm 5 w g lo) w (w.setCell (At g 1) (.bool q)) := fun q =>
    ⟨⟨h1, h2, v, hb.set 1 (.bool q), ho.fx (Fx.set (m := only g) _ _ _ rfl) fun k hk e => hne (by rw [← hk, e])⟩, Fx.set _ _ _ (.inl rfl)⟩
  by_cases hc : s.bad = true ∨ 128 < xs.length
  · have hr : wlist one xs s = ⟨s.b, true⟩ := by unfold wlist; rw [if_pos hc]
    rw [hr]
    have hbs : (w.setCell (At g 1) (.bool true)).cell? (At g 1) = some (.bool true) := (hb.set 1 (.bool true)).cell 1
    by_cases hbad : s.bad = true
    case' pos => rw [hbad] at hb
    case' pos => simp -implicitDefEqProofs only [go_sem, seval, hb.cell, hb.frozen, hbs]
    case' neg => have hb0 : s.bad = false := by simpa using hbad
    case' neg => rw [hb0] at hb
    case' neg => have hlt : (128 : Int) < (xs.length : Int) := by rcases hc with hc | hc; exact absurd hc hbad; omega
    case' neg => simp -implicitDefEqProofs only [go_sem, seval, hb.cell, hb.frozen, hlt, hbs]
    all_goals exact ⟨rfl, st true⟩
  · have hb0 : s.bad = false := by cases hq : s.bad; rfl; exact absurd (.inl hq) hc
    have hlt : ¬ (128 : Int) < (xs.length : Int) := fun e => hc (.inr (by omega))
    have hr : wlist one xs s = xs.foldl (fun s x => one x s) (wnum xs.length ⟨s.b, false⟩) := by unfold wlist; rw [if_neg hc]; rfl
    rw [hr]
    have hbs : (w.setCell (At g 1) (.bool false)).cell? (At g 1) = some (.bool false) := (hb.set 1 (.bool false)).cell 1
    rw [hb0] at hb
    have e1 : IntKind.u64.wrap (xs.length : Int) = xs.length := u64_nat (by omega) (by omega)
    simp -implicitDefEqProofs only [go_sem, seval, hb.cell, hb.frozen, hlt, hbs, e1]
    refine (wnum_calls (n := xs.length) (by omega) (st false).1 (by show s.b.length + 10 ≤ _; omega)).mono ?_
    rintro v w2 ⟨rfl, hw2, f2⟩
    have j2 := hJ _ _ (hJ _ _ j (st false).2) f2
    have f2 := Wm.tr (st false).2 f2
    have hx2 := hx.fx f2 (fun k hk => Wm.low h1 (hU k hk))
    have hlv : (wnum xs.length ⟨s.b, false⟩).b.length ≤ s.b.length + 10 := by
      have := vput_u64 (n := xs.length) (by omega)
      show (s.b ++ vput xs.length).length ≤ _
      rw [List.length_append]; omega
    generalize wnum xs.length ⟨s.b, false⟩ = s2 at *
    have hBm : xs.length * B ≤ 128 * B := Nat.mul_le_mul_right _ (by omega)
    simp -implicitDefEqProofs only [go_sem, seval]
    refine loop_intro (fun q f w' => ∃ (i : Nat) (s' : WS), q = xs.length - i ∧ i ≤ xs.length ∧ f 0 = .pointer (some (At g 0)) ∧ f 2 = .func (.func F) first cap ∧ f 29 = .slice A xs.length c ∧ f 30 = .int .i64 xs.length ∧ f 31 = .int .i64 i ∧
        xs.foldl (fun s x => one x s) s2 = (xs.drop i).foldl (fun s x => one x s) s' ∧ s'.b.length + (xs.length - i) * B ≤ 70368744177664 ∧ WrS 96 5 w' g lo s' ∧ J w' ∧ Fx (Wm 5 w g lo) w w') xs.length
      ⟨0, s2, rfl, by omega, by simp -implicitDefEqProofs only [go_sem, seval], by simp -implicitDefEqProofs only [go_sem, seval], by simp -implicitDefEqProofs only [go_sem, seval], by simp -implicitDefEqProofs only [go_sem, seval], by simp -implicitDefEqProofs only [go_sem, seval] <;> rfl, rfl, by rw [Nat.sub_zero]; omega, hw2, j2, f2⟩ ?_
    rintro q f w3 ⟨i, s', rfl, hi, g0, g2, g29, g30, g31, hfold, hb3, hw3, j3, f3⟩
    by_cases hlt : i < xs.length
    · have i0 : (0 : Int) ≤ (i : Int) := by omega
      have i1 : (i : Int) < (xs.length : Int) := by omega
      have en : IntKind.i64.wrap ((i : Int) + 1) = ((i + 1 : Nat) : Int) := i64_nat (by omega) (by omega)
      obtain ⟨x, ex⟩ : ∃ x, xs[i]? = some x := ⟨_, List.getElem?_eq_getElem hlt⟩
      have hx3 := hx.fx f3 (fun k hk => Wm.low h1 (hU k hk))
      have hdr : xs.drop i = x :: xs.drop (i + 1) := by
        rw [List.drop_eq_getElem_cons hlt]
        rw [List.getElem?_eq_getElem hlt] at ex
        cases ex; rfl
      rw [hdr, List.foldl_cons] at hfold
      have hsub : (xs.length - i) * B = B + (xs.length - (i + 1)) * B := by
        rw [show xs.length - i = (xs.length - (i + 1)) + 1 by omega, Nat.succ_mul]; omega
      obtain ⟨ad, rfl, hU3, vs, hr, hc3⟩ := hx3 i x ex
      have hvl : vs.length = 2 := kHit.len hr
      have hld := ldV_agg (P := Try.prog) sh107 hvl hc3
      have hks : kHit.sz = 2 := rfl
      rw [hks] at hld
      have hall : allOne vs = true := allOne_of (kHit.one hr)
      have hbx : Blk _ _ _ _ := Blk.new w3 107 #[.int .i64 0, .int .u32 0]
      have S0 := stB (P := Try.prog) (o := 0) sz107 hbx (by decide) vs hvl hall
      have L0 := ldP (P := Try.prog) sh107 hbx rfl vs hvl
      simp -implicitDefEqProofs only [go_sem, seval, g0, g2, g29, g30, g31, i0, i1, hld, S0, L0, fnK_eq hF]
      have kA : Keep w3 (w3.alloc (.cells #[.int .i64 0, .int .u32 0] 107)) := Fx.alloc _ _ _
      have kP : Fx (only w3.heap.size) (w3.alloc (.cells #[.int .i64 0, .int .u32 0] 107)) (putW (w3.alloc (.cells #[.int .i64 0, .int .u32 0] 107)) w3.heap.size 0 vs) := Fx.put _ _ _ _ rfl
      have k5 : Keep w3 _ := kA.new kP (fun k e hk => by have : k = w3.heap.size := e; omega)
      generalize putW (w3.alloc (.cells #[.int .i64 0, .int .u32 0] 107)) w3.heap.size 0 vs = w5 at *
      have j4 := hJ _ _ j3 (k5.fx _)
      have f5 := Wm.tr f3 (k5.fx _)
      have hr5 := kHit.keep hr k5
      have hlB := hB w5 x s' vs hr5
      refine (H w5 x s' vs j4 hr5 (hw3.keep k5) (by omega) _ rfl).mono ?_
      rintro v w4 ⟨rfl, hw4, f4⟩
      simp -implicitDefEqProofs only [go_sem, seval, g0, g2, g29, g30, g31, en]
      exact ⟨xs.length - (i + 1), by omega, i + 1, one x s', rfl, by omega, by simp -implicitDefEqProofs only [go_sem, seval, g0], by simp -implicitDefEqProofs only [go_sem, seval, g2], by simp -implicitDefEqProofs only [go_sem, seval, g29], by simp -implicitDefEqProofs only [go_sem, seval, g30], by simp -implicitDefEqProofs only [go_sem, seval], hfold, by omega, hw4, hJ _ _ j4 f4, Wm.tr f5 f4⟩
    · have i1 : ¬ (i : Int) < (xs.length : Int) := by omega
      have hz : xs.drop i = [] := List.drop_of_length_le (by omega)
      rw [hz] at hfold
      simp -implicitDefEqProofs only [go_sem, seval, g0, g2, g29, g30, g31, i1]
      refine ⟨rfl, ?_, f3⟩
      rw [hfold]; exact hw3
section
variable {w : World} {g lo : Nat} {s : WS}
theorem whit_calls {U : Nat → Prop} {x : MHit} {cs : List Value} (hx : kHit.rep U w x cs) (hU : ∀ k, U k → k < lo) (h : WrS 96 5 w g lo s) (hl : s.b.length + 20 ≤ 70368744177664) :
    callK Try.prog 69 #[.pointer (some (At g 0)), .agg cs.toArray] w (Wrote w g lo (whit x s)) := by
  refine callK_of Try.func69 c69 r69 (by exact Nat.le_of_ble_eq_true rfl) ?_
  rw [m69]
  obtain ⟨rfl, hd, hi⟩ := kHit_cases hx
  obtain ⟨d0, d1⟩ := unI64 hd
  obtain ⟨i0, i1⟩ := unU32 hi
  have kA : Keep w (w.alloc (.cells #[.int .i64 x.dist, .int .u32 x.id] 107)) := Fx.alloc _ w _
  have hbx : Blk _ _ _ _ := Blk.new w 107 #[.int .i64 x.dist, .int .u32 x.id]
  have hg := h.lt
  have e1 : IntKind.u64.wrap x.id = (x.id.toNat : Int) := by rw [IntKind.wrap_u64]; omega
  simp -implicitDefEqProofs only [go_sem, seval, hbx.cell]
  have h1 := h.keep kA
  generalize w.alloc (.cells #[.int .i64 x.dist, .int .u32 x.id] 107) = w1 at *
  generalize hbxe : w.heap.size = bx at *
  obtain ⟨g1, g2, v, hb, ho⟩ := h1
  have hbd : Blk w1.drew g 96 #[v, .bool s.bad] := hb
  have hxd : Blk w1.drew bx 107 #[.int .i64 x.dist, .int .u32 x.id] := hbx
  have hod : OwnI 5 .u8 lo w1.drew v s.b := ho
  have f0 : Keep w w1.drew := kA.tr (Fx.drew _ _)
  generalize w1.drew = wd at *
  obtain ⟨A, c, rfl, hc, _⟩ := hod.slice
  refine seg_intro (fun w' => Blk w' g 96 #[.slice A s.b.length c, .bool s.bad] ∧ Blk w' bx 107 #[.int .i64 x.dist, .int .u32 x.id]) ⟨hbd, hxd⟩ ?_
  simp -implicitDefEqProofs only [go_sem, seval]
  refine hld_intro (.slice A s.b.length c) ⟨hbd, hxd⟩ (fun w' hw' => by have := hw'.1.cell 0; simp -implicitDefEqProofs only [go_sem, seval, this]; exact ⟨trivial, trivial⟩) ?_
  simp -implicitDefEqProofs only [go_sem, seval, hxd.cell]
  refine goE_intro ⟨hbd, hxd⟩ ?_
  simp -implicitDefEqProofs only [go_sem, seval]
  refine (putInt_calls (by omega) (by omega) wd).mono ?_
  rintro v w2 ⟨o2, k2⟩
  have hb2 := k2.blk hbd (fun x => x)
  have hx2 := k2.blk hxd (fun x => x)
  refine goE_intro ⟨hb2, hx2⟩ ?_
  obtain ⟨A2, c2, rfl, hc2, r2⟩ := o2.slice
  have ho2 := hod.fx k2 (fun _ _ x => x)
  have hv := vput_u64 (n := zig x.dist) (zig_lt (by omega) (by omega))
  have hlt := hb2.lt
  simp -implicitDefEqProofs only [go_sem, seval]
  refine append_own ie8 (by decide) ho2 r2 (by omega) (by omega) ?_
  intro v4 w4 o4 hf _
  have hne := ho2.ne hb2 (by decide)
  have hb4 := hf.blk hb2 (fun e => hne e.symm)
  have hx4 := hf.blk hx2 (fun e => ho2.ne hx2 (by decide) e.symm)
  obtain ⟨A4, c4, rfl, hc4, _⟩ := o4.slice
  have hb5 := hb4.set 0 (.slice A4 (s.b ++ vput (zig x.dist)).length c4)
  have hne4 := o4.ne hb4 (by decide)
  have hx5 : Blk (w4.setCell (At g 0) (.slice A4 (s.b ++ vput (zig x.dist)).length c4)) bx 107 #[.int .i64 x.dist, .int .u32 x.id] := (Fx.set (m := only g) _ _ _ rfl : Fx (only g) w4 (w4.setCell (At g 0) (.slice A4 (s.b ++ vput (zig x.dist)).length c4))).blk hx4 (fun e => by have : bx = g := e; omega)
  simp -implicitDefEqProofs only [go_sem, seval, hb4.cell, hb4.frozen, hx5.cell, e1]
  have hW5 : WrS 96 5 (w4.setCell (At g 0) (.slice A4 (s.b ++ vput (zig x.dist)).length c4)) g lo (wint x.dist s) := ⟨g1, by show (s.b ++ vput (zig x.dist)).length ≤ _; rw [List.length_append]; omega, _, hb5, o4.fx (Fx.set (m := only g) _ _ _ rfl) fun k hk e => hne4 (by rw [← hk, e])⟩
  refine (wnum_calls (n := x.id.toNat) (by omega) hW5 (by show (s.b ++ vput (zig x.dist)).length + 10 ≤ _; rw [List.length_append]; omega)).mono ?_
  rintro v w6 ⟨rfl, h6, f6⟩
  simp -implicitDefEqProofs only [go_sem, seval]
  exact ⟨rfl, h6, Wm.ktr (f0.tr k2) (Wm.tr (Wm.tr (hf.weaken fun k _ e => ho2.wm e) (Fx.set _ _ _ (.inl rfl))) f6)⟩
theorem filter_len {U : Nat → Prop} {w : World} {x : MFilter} {cs : List Value} (h : kFilter.rep U w x cs) (s : WS) : (wfilter x s).b.length ≤ s.b.length + 1576734 := by
  unfold wfilter
  have h1 := wr_texts.len x.none (wtexts x.any (wtexts x.all s)) trivial
  have h2 := wr_texts.len x.any (wtexts x.all s) trivial
  have h3 := wr_texts.len x.all s trivial
  omega
theorem conf_len {U : Nat → Prop} {w : World} {x : MConf} {cs : List Value} (h : kConf.rep U w x cs) (s : WS) : (wconf x s).b.length ≤ s.b.length + 4156 := by
  obtain ⟨_, _, h1, h2, h3, h4⟩ := kConf_cases h
  have h1 := wf_u8' h1
  have h2 := wf_u8' h2
  have h3 := wf_u8' h3
  have h4 := unU16 h4
  unfold wconf
  have n0 : (wor (decide (1 < x.metric)) s).b = s.b := rfl
  generalize wor (decide (1 < x.metric)) s = s0 at *
  have n1 := wr_text.len x.name s0 trivial
  generalize wtext x.name s0 = s1 at *
  have n2 := (wr_num (most := 255) (hm := by decide)).len x.dim s1 (by omega)
  generalize wnum x.dim.toNat s1 = s2 at *
  have n3 := (wr_num (most := 255) (hm := by decide)).len x.metric s2 (by omega)
  generalize wnum x.metric.toNat s2 = s3 at *
  have n4 := wr_flag.len x.graph s3 trivial
  generalize wflag x.graph s3 = s4 at *
  have n5 := (wr_num (most := 255) (hm := by decide)).len x.links s4 (by omega)
  generalize wnum x.links.toNat s4 = s5 at *
  have n6 := (wr_num (most := 65535) (hm := by decide)).len x.width s5 (by omega)
  rw [n0] at n1
  omega
theorem wfilter_calls {U : Nat → Prop} {x : MFilter} {cs : List Value} (hx : kFilter.rep U w x cs) (hU : ∀ k, U k → k < lo) (h : WrS 96 5 w g lo s) (hl : s.b.length + 1576734 ≤ 70368744177664) :
    callK Try.prog 41 #[.pointer (some (At g 0)), .agg cs.toArray] w (Wrote w g lo (wfilter x s)) := by
  refine callK_of Try.func41 c41 r41 (by exact Nat.le_of_ble_eq_true rfl) ?_
  rw [m41]
  obtain ⟨A, a, B, b, C, c, rfl, a2, b2, c2, a1, b1, c1, a3, b3, c3⟩ := kFilter_cases hx
  simp only [maxLen] at a2 b2 c2
  have kA : Keep w (w.alloc (.cells #[.slice A x.all.length a, .slice B x.any.length b, .slice C x.none.length c] 38)) := Fx.alloc _ w _
  have hb : Blk _ _ _ _ := Blk.new w 38 #[.slice A x.all.length a, .slice B x.any.length b, .slice C x.none.length c]
  have hg := h.lt
  simp -implicitDefEqProofs only [go_sem, seval, hb.cell]
  have h1 := h.keep kA
  have a3 := a3.keep kA
  have b3 := b3.keep kA
  have c3 := c3.keep kA
  generalize w.alloc (.cells #[.slice A x.all.length a, .slice B x.any.length b, .slice C x.none.length c] 38) = w1 at *
  generalize hbx : w.heap.size = bx at *
  have n1 := wr_texts.len x.all s trivial
  have n2 := wr_texts.len x.any (wtexts x.all s) trivial
  unfold wfilter
  refine (wtexts_calls a3 hU (by omega) h1 (by omega)).mono ?_
  rintro v w2 ⟨rfl, h2, f2⟩
  have hb2 := f2.blk hb (Wm.not hb (by decide) (by omega))
  simp -implicitDefEqProofs only [go_sem, seval, hb2.cell]
  refine (wtexts_calls (b3.fx f2 fun k hk => Wm.low hg.1 (hU k hk)) hU (by omega) h2 (by omega)).mono ?_
  rintro v w3 ⟨rfl, h3, f3⟩
  have hb3 := f3.blk hb2 (Wm.not hb2 (by decide) (by omega))
  have f3 := Wm.tr f2 f3
  simp -implicitDefEqProofs only [go_sem, seval, hb3.cell]
  refine (wtexts_calls (c3.fx f3 fun k hk => Wm.low hg.1 (hU k hk)) hU (by omega) h3 (by omega)).mono ?_
  rintro v w4 ⟨rfl, h4, f4⟩
  simp -implicitDefEqProofs only [go_sem, seval]
  exact ⟨rfl, h4, Wm.ktr kA (Wm.tr f3 f4)⟩
theorem wconf_calls {U : Nat → Prop} {x : MConf} {cs : List Value} (hx : kConf.rep U w x cs) (hU : ∀ k, U k → k < lo) (h : WrS 96 5 w g lo s) (hl : s.b.length + 4156 ≤ 70368744177664) :
    callK Try.prog 37 #[.pointer (some (At g 0)), .agg cs.toArray] w (Wrote w g lo (wconf x s)) := by
  refine callK_of Try.func37 c37 r37 (by exact Nat.le_of_ble_eq_true rfl) ?_
  rw [m37]
  obtain ⟨rfl, hsz, w1, w2, w3, w4⟩ := kConf_cases hx
  have r1 := wf_u8' w1
  have r2 := wf_u8' w2
  have r3 := wf_u8' w3
  have r4 := unU16 w4
  have e1 : IntKind.u64.wrap x.dim = (x.dim.toNat : Int) := by rw [IntKind.wrap_u64]; omega
  have e2 : IntKind.u64.wrap x.metric = (x.metric.toNat : Int) := by rw [IntKind.wrap_u64]; omega
  have e3 : IntKind.u64.wrap x.links = (x.links.toNat : Int) := by rw [IntKind.wrap_u64]; omega
  have e4 : IntKind.u64.wrap x.width = (x.width.toNat : Int) := by rw [IntKind.wrap_u64]; omega
  have kA : Keep w (w.alloc (.cells #[.string x.name, .int .u8 x.dim, .int .u8 x.metric, .bool x.graph, .int .u8 x.links, .int .u16 x.width] 33)) := Fx.alloc _ w _
  have hb : Blk _ _ _ _ := Blk.new w 33 #[.string x.name, .int .u8 x.dim, .int .u8 x.metric, .bool x.graph, .int .u8 x.links, .int .u16 x.width]
  have hg := h.lt
  have h1 := h.keep kA
  simp -implicitDefEqProofs only [go_sem, seval]
  generalize w.alloc (.cells #[.string x.name, .int .u8 x.dim, .int .u8 x.metric, .bool x.graph, .int .u8 x.links, .int .u16 x.width] 33) = wa at *
  generalize hbx : w.heap.size = bx at *
  obtain ⟨g1, g2, v, hbw, how⟩ := h1
  have hne := how.ne hbw (by decide)
  have hbg : ¬ only g bx := fun e => by have : bx = g := e; omega
  have step : ∀ q : Bool, q = (s.bad || decide (1 < x.metric)) → WrS 96 5 (wa.setCell (At g 1) (.bool q)) g lo (wor (decide (1 < x.metric)) s) ∧ Fx (Wm 5 wa g lo) wa (wa.setCell (At g 1) (.bool q)) ∧ Blk (wa.setCell (At g 1) (.bool q)) bx 33 #[.string x.name, .int .u8 x.dim, .int .u8 x.metric, .bool x.graph, .int .u8 x.links, .int .u16 x.width] := by
    rintro q rfl
    exact ⟨⟨g1, g2, v, hbw.set 1 _, how.fx (Fx.set (m := only g) _ _ _ rfl) fun k hk e => hne (by rw [← hk, e])⟩, Fx.set _ _ _ (.inl rfl), (Fx.set (m := only g) _ _ _ rfl : Fx (only g) wa _).blk hb hbg⟩
  have hsl : (wor (decide (1 < x.metric)) s).b.length = s.b.length := rfl
  unfold wconf
  generalize wor (decide (1 < x.metric)) s = s0 at *
  have n1 := wr_text.len x.name s0 trivial
  have n2 := (wr_num (most := 255) (hm := by decide)).len x.dim (wtext x.name s0) (by omega)
  have n3 := (wr_num (most := 255) (hm := by decide)).len x.metric (wnum x.dim.toNat (wtext x.name s0)) (by omega)
  have n4 := wr_flag.len x.graph (wnum x.metric.toNat (wnum x.dim.toNat (wtext x.name s0))) trivial
  have n5 := (wr_num (most := 255) (hm := by decide)).len x.links (wflag x.graph (wnum x.metric.toNat (wnum x.dim.toNat (wtext x.name s0)))) (by omega)
  have ready : ∀ (K : Prop), (s.bad = true → K) → (s.bad = false → 1 < x.metric → K) → (s.bad = false → ¬ 1 < x.metric → K) → K := by
    intro K h1 h2 h3
    cases hq : s.bad with
    | true => exact h1 hq
    | false =>
      by_cases hm : 1 < x.metric
      · exact h2 hq hm
      · exact h3 hq hm
  refine ready _ (fun q1 => ?ca) (fun q1 q2 => ?cb) (fun q1 q2 => ?cc)
  case' ca =>
    rw [q1] at hbw
    obtain ⟨h2, f2, hb2⟩ := step true (by simp [q1])
    simp -implicitDefEqProofs only [go_sem, seval, hbw.cell, hbw.frozen, hb2.cell]
  case' cb =>
    rw [q1] at hbw
    obtain ⟨h2, f2, hb2⟩ := step true (by simp [q1, q2])
    simp -implicitDefEqProofs only [go_sem, seval, hb.cell, hbw.cell, hbw.frozen, hb2.cell, q2]
  case' cc =>
    rw [q1] at hbw
    obtain ⟨h2, f2, hb2⟩ := step false (by simp [q1, q2])
    simp -implicitDefEqProofs only [go_sem, seval, hb.cell, hbw.cell, hbw.frozen, hb2.cell, q2]
  all_goals
    refine (wtext_calls x.name hsz h2 (by omega)).mono ?_
    rintro v w3 ⟨rfl, h3, f3⟩
    have hb3 := f3.blk hb2 (Wm.not hb2 (by decide) (by omega))
    have f3 := Wm.tr f2 f3
    simp -implicitDefEqProofs only [go_sem, seval, hb3.cell, e1]
    refine (wnum_calls (n := x.dim.toNat) (by omega) h3 (by omega)).mono ?_
    rintro v w4 ⟨rfl, h4, f4⟩
    have hb4 := f4.blk hb3 (Wm.not hb3 (by decide) (by omega))
    have f4 := Wm.tr f3 f4
    simp -implicitDefEqProofs only [go_sem, seval, hb4.cell, e2]
    refine (wnum_calls (n := x.metric.toNat) (by omega) h4 (by omega)).mono ?_
    rintro v w5 ⟨rfl, h5, f5⟩
    have hb5 := f5.blk hb4 (Wm.not hb4 (by decide) (by omega))
    have f5 := Wm.tr f4 f5
    simp -implicitDefEqProofs only [go_sem, seval, hb5.cell]
    refine (wflag_calls x.graph h5 (by omega)).mono ?_
    rintro v w6 ⟨rfl, h6, f6⟩
    have hb6 := f6.blk hb5 (Wm.not hb5 (by decide) (by omega))
    have f6 := Wm.tr f5 f6
    simp -implicitDefEqProofs only [go_sem, seval, hb6.cell, e3]
    refine (wnum_calls (n := x.links.toNat) (by omega) h6 (by omega)).mono ?_
    rintro v w7 ⟨rfl, h7, f7⟩
    have hb7 := f7.blk hb6 (Wm.not hb6 (by decide) (by omega))
    have f7 := Wm.tr f6 f7
    simp -implicitDefEqProofs only [go_sem, seval, hb7.cell, e4]
    refine (wnum_calls (n := x.width.toNat) (by omega) h7 (by omega)).mono ?_
    rintro v w8 ⟨rfl, h8, f8⟩
    simp -implicitDefEqProofs only [go_sem, seval]
    exact ⟨rfl, h8, Wm.ktr kA (Wm.tr f7 f8)⟩

/-- What a field's writing ends with. -/
def WroteF (w : World) (g lo bx : Nat) (U : Nat → Prop) (x : Msg) (s s0 : WS) : Value → World → Prop := fun v w' => v = .tuple #[] ∧ MsgAt 42 U w' bx x ∧ WrS 96 5 w' g lo s ∧ s.b.length ≤ s0.b.length + 67441674 ∧ Fx (fun k => k = bx ∨ Wm 5 w g lo k) w w'
theorem wrest_calls {U : Nat → Prop} {bx : Nat} {x : Msg} {f : Int} (hf : f = 112 ∨ f = 98 ∨ f = 86 ∨ f = 83 ∨ f = 73 ∨ f = 72) (hM : MsgAt 42 U w bx x) (hU : ∀ k, U k → k < bx) (hbx : bx < lo) (hW : WrS 96 5 w g lo s) (hl : s.b.length + 67441674 ≤ 70368744177664) :
    callK Try.prog 42 #[.pointer (some (At g 0)), .int .i32 f, .pointer (some (At bx 0))] w (WroteF w g lo bx U (wfieldP f (x, s)).1 (wfieldP f (x, s)).2 s) := by
  refine callK_of Try.func42 c42 r42 (by exact Nat.le_of_ble_eq_true rfl) ?_
  rw [m42]
  have hg := hW.lt
  have hnb : ¬ Wm 5 w g lo bx := Wm.low hg.1 hbx
  rcases hf with rfl | rfl | rfl | rfl | rfl | rfl
  · obtain ⟨v, hc, hfz, hv, hwf⟩ := hM.cell lnPage rfl
    simp only [List.cons.injEq, and_true] at hv
    subst hv
    have hr := unU32 hwf
    have e1 : IntKind.u64.wrap x.page = (x.page.toNat : Int) := by rw [IntKind.wrap_u64]; omega
    simp -implicitDefEqProofs only [go_sem, seval, hc, e1, Int.reduceBEq]
    refine (wnum_calls (n := x.page.toNat) (by omega) hW (by omega)).mono ?_
    rintro v w2 ⟨rfl, hW2, f2⟩
    have hM2 := hM.fx f2 hnb (fun k hk _ => Wm.low hg.1 (by have := hU k hk; omega))
    obtain ⟨v, hc2, hfz2, _⟩ := hM2.cell lnPage rfl
    simp -implicitDefEqProofs only [go_sem, seval, hc2, hfz2]
    have hlen := vput_u64 (n := x.page.toNat) (by omega)
    refine ⟨rfl, hM2.set lnPage (fun h => by have := hU bx h; omega) (y := (0 : Int)) ⟨rfl, rfl⟩ (by decide), hW2.fx (Fx.set (m := only bx) _ _ _ rfl) (fun k hk _ e => by have : k = bx := e; omega), by show (s.b ++ vput x.page.toNat).length ≤ _; rw [List.length_append]; omega, ?_⟩
    exact (f2.weaken fun k _ h => .inr h).tr (Fx.set _ _ _ (.inl rfl))
  · obtain ⟨v, hc, hfz, hv⟩ := hM.cell lnBytes rfl
    obtain ⟨A, c, hvv, hlc, hcm, he⟩ := list_one hv
    simp only [List.cons.injEq, and_true] at hvv
    subst hvv
    have hml : c ≤ 9223372036854775807 := by simp only [maxLen] at hcm; omega
    simp -implicitDefEqProofs only [go_sem, seval, hc, Int.reduceBEq]
    refine cv_bytes bs8 he.rd ?_
    have hsz : (strOfNums x.bytes).size ≤ maxLen := by rw [strOfNums_size]; omega
    have hnm : nums (strOfNums x.bytes) = x.bytes := nums_str he.bs
    simp -implicitDefEqProofs only [go_sem, seval]
    refine (wtext_calls (strOfNums x.bytes) hsz hW (by omega)).mono ?_
    unfold wtext
    rw [hnm]
    rintro v w2 ⟨rfl, hW2, f2⟩
    have hM2 := hM.fx f2 hnb (fun k hk _ => Wm.low hg.1 (by have := hU k hk; omega))
    obtain ⟨v, hc2, hfz2, _⟩ := hM2.cell lnBytes rfl
    simp -implicitDefEqProofs only [go_sem, seval, hc2, hfz2]
    refine ⟨rfl, hM2.set lnBytes (fun h => by have := hU bx h; omega) (y := []) (nil_rep _ _) (by decide), hW2.fx (Fx.set (m := only bx) _ _ _ rfl) (fun k hk _ e => by have : k = bx := e; omega), (by have := wr_bytes.len x.bytes s he.bs; exact Nat.le_trans this (by omega)), ?_⟩
    exact (f2.weaken fun k _ h => .inr h).tr (Fx.set _ _ _ (.inl rfl))
  · obtain ⟨v, hc, hfz, hv, hwf⟩ := hM.cell lnVersion rfl
    simp only [List.cons.injEq, and_true] at hv
    subst hv
    have hr := unU64 hwf
    have e1 : x.version = (x.version.toNat : Int) := by omega
    rw [e1] at hc
    simp -implicitDefEqProofs only [go_sem, seval, hc, Int.reduceBEq]
    refine (wnum_calls (n := x.version.toNat) (by omega) hW (by omega)).mono ?_
    rintro v w2 ⟨rfl, hW2, f2⟩
    have hM2 := hM.fx f2 hnb (fun k hk _ => Wm.low hg.1 (by have := hU k hk; omega))
    obtain ⟨v, hc2, hfz2, _⟩ := hM2.cell lnVersion rfl
    simp -implicitDefEqProofs only [go_sem, seval, hc2, hfz2]
    have hlen := vput_u64 (n := x.version.toNat) (by omega)
    refine ⟨rfl, hM2.set lnVersion (fun h => by have := hU bx h; omega) (y := (0 : Int)) ⟨rfl, rfl⟩ (by decide), hW2.fx (Fx.set (m := only bx) _ _ _ rfl) (fun k hk _ e => by have : k = bx := e; omega), by show (s.b ++ vput x.version.toNat).length ≤ _; rw [List.length_append]; omega, ?_⟩
    exact (f2.weaken fun k _ h => .inr h).tr (Fx.set _ _ _ (.inl rfl))
  · obtain ⟨v, hc, hfz, hv⟩ := hM.cell lnNames rfl
    obtain ⟨A, c, hvv, hlc, hcm, he⟩ := list_one hv
    simp only [List.cons.injEq, and_true] at hvv
    subst hvv
    have hml : c ≤ 9223372036854775807 := by simp only [maxLen] at hcm; omega
    simp -implicitDefEqProofs only [go_sem, seval, hc, Int.reduceBEq]
    refine (wtexts_calls he (fun k hk => by have := hU k hk; omega) (by omega) hW (by omega)).mono ?_
    rintro v w2 ⟨rfl, hW2, f2⟩
    have hM2 := hM.fx f2 hnb (fun k hk _ => Wm.low hg.1 (by have := hU k hk; omega))
    obtain ⟨v, hc2, hfz2, _⟩ := hM2.cell lnNames rfl
    simp -implicitDefEqProofs only [go_sem, seval, hc2, hfz2]
    refine ⟨rfl, hM2.set lnNames (fun h => by have := hU bx h; omega) (y := []) (nil_rep _ _) (by decide), hW2.fx (Fx.set (m := only bx) _ _ _ rfl) (fun k hk _ e => by have : k = bx := e; omega), (by have := wr_texts.len x.names s trivial; exact Nat.le_trans this (by omega)), ?_⟩
    exact (f2.weaken fun k _ h => .inr h).tr (Fx.set _ _ _ (.inl rfl))
  · obtain ⟨v, hc, hfz, hv⟩ := hM.cell lnItems rfl
    obtain ⟨A, c, hvv, hlc, hcm, he⟩ := list_one hv
    simp only [List.cons.injEq, and_true] at hvv
    subst hvv
    have hml : c ≤ 9223372036854775807 := by simp only [maxLen] at hcm; omega
    simp -implicitDefEqProofs only [go_sem, seval, hc, Int.reduceBEq]
    refine (wlistItem_calls (one := witem) (B := 526878) (U := U) (J := fun _ => True) hb62 (fun _ _ _ _ => trivial) (fun k hk => by have := hU k hk; omega) (fun w3 x3 s3 vs _ hr h3 hl3 v hv => by subst hv; exact witem_calls hr (fun k hk => by have := hU k hk; omega) h3 hl3) (fun w3 x3 s3 vs hr => wr_item.len x3 s3 (item_range hr)) he (by omega) trivial hW (by omega)).mono ?_
    rintro v w2 ⟨rfl, hW2, f2⟩
    have hM2 := hM.fx f2 hnb (fun k hk _ => Wm.low hg.1 (by have := hU k hk; omega))
    obtain ⟨v, hc2, hfz2, _⟩ := hM2.cell lnItems rfl
    simp -implicitDefEqProofs only [go_sem, seval, hc2, hfz2]
    refine ⟨rfl, hM2.set lnItems (fun h => by have := hU bx h; omega) (y := []) (nil_rep _ _) (by decide), hW2.fx (Fx.set (m := only bx) _ _ _ rfl) (fun k hk _ e => by have : k = bx := e; omega), (by have := wr_items.len x.items s (items_range he); exact Nat.le_trans this (by omega)), ?_⟩
    exact (f2.weaken fun k _ h => .inr h).tr (Fx.set _ _ _ (.inl rfl))
  · obtain ⟨v, hc, hfz, hv⟩ := hM.cell lnHits rfl
    obtain ⟨A, c, hvv, hlc, hcm, he⟩ := list_one hv
    simp only [List.cons.injEq, and_true] at hvv
    subst hvv
    have hml : c ≤ 9223372036854775807 := by simp only [maxLen] at hcm; omega
    simp -implicitDefEqProofs only [go_sem, seval, hc, Int.reduceBEq]
    refine (wlistHit_calls (one := whit) (B := 20) (U := U) (J := fun _ => True) hb69 (fun _ _ _ _ => trivial) (fun k hk => by have := hU k hk; omega) (fun w3 x3 s3 vs _ hr h3 hl3 v hv => by subst hv; exact whit_calls hr (fun k hk => by have := hU k hk; omega) h3 hl3) (fun w3 x3 s3 vs hr => wr_hit.len x3 s3 (hit_range hr)) he (by omega) trivial hW (by omega)).mono ?_
    rintro v w2 ⟨rfl, hW2, f2⟩
    have hM2 := hM.fx f2 hnb (fun k hk _ => Wm.low hg.1 (by have := hU k hk; omega))
    obtain ⟨v, hc2, hfz2, _⟩ := hM2.cell lnHits rfl
    simp -implicitDefEqProofs only [go_sem, seval, hc2, hfz2]
    refine ⟨rfl, hM2.set lnHits (fun h => by have := hU bx h; omega) (y := []) (nil_rep _ _) (by decide), hW2.fx (Fx.set (m := only bx) _ _ _ rfl) (fun k hk _ e => by have : k = bx := e; omega), (by have := wr_hits.len x.hits s (hits_range he); exact Nat.le_trans this (by omega)), ?_⟩
    exact (f2.weaken fun k _ h => .inr h).tr (Fx.set _ _ _ (.inl rfl))
theorem wfield_calls {U : Nat → Prop} {bx : Nat} {x : Msg} {f : Int} (hf : f = 114 ∨ f = 99 ∨ f = 116 ∨ f = 101 ∨ f = 110 ∨ f = 78 ∨ f = 67 ∨ f = 76 ∨ f = 105 ∨ f = 118 ∨ f = 107 ∨ f = 119 ∨ f = 102 ∨ f = 117 ∨ f = 112 ∨ f = 98 ∨ f = 86 ∨ f = 83 ∨ f = 73 ∨ f = 72) (hM : MsgAt 42 U w bx x) (hU : ∀ k, U k → k < bx) (hbx : bx < lo) (hW : WrS 96 5 w g lo s) (hl : s.b.length + 67441674 ≤ 70368744177664) :
    callK Try.prog 28 #[.pointer (some (At g 0)), .int .i32 f, .pointer (some (At bx 0))] w (WroteF w g lo bx U (wfieldP f (x, s)).1 (wfieldP f (x, s)).2 s) := by
  refine callK_of Try.func28 c28 r28 (by exact Nat.le_of_ble_eq_true rfl) ?_
  rw [m28]
  have hg := hW.lt
  have hnb : ¬ Wm 5 w g lo bx := Wm.low hg.1 hbx
  rcases hf with rfl | rfl | rfl | rfl | rfl | rfl | rfl | rfl | rfl | rfl | rfl | rfl | rfl | rfl | rfl | rfl | rfl | rfl | rfl | rfl
  · obtain ⟨v, hc, hfz, hv, hwf⟩ := hM.cell lnReq rfl
    simp only [List.cons.injEq, and_true] at hv
    subst hv
    have hr := unU32 hwf
    have e1 : IntKind.u64.wrap x.req = (x.req.toNat : Int) := by rw [IntKind.wrap_u64]; omega
    simp -implicitDefEqProofs only [go_sem, seval, hc, e1, Int.reduceBEq]
    refine (wnum_calls (n := x.req.toNat) (by omega) hW (by omega)).mono ?_
    rintro v w2 ⟨rfl, hW2, f2⟩
    have hM2 := hM.fx f2 hnb (fun k hk _ => Wm.low hg.1 (by have := hU k hk; omega))
    obtain ⟨v, hc2, hfz2, _⟩ := hM2.cell lnReq rfl
    simp -implicitDefEqProofs only [go_sem, seval, hc2, hfz2]
    have hlen := vput_u64 (n := x.req.toNat) (by omega)
    refine ⟨rfl, hM2.set lnReq (fun h => by have := hU bx h; omega) (y := (0 : Int)) ⟨rfl, rfl⟩ (by decide), hW2.fx (Fx.set (m := only bx) _ _ _ rfl) (fun k hk _ e => by have : k = bx := e; omega), by show (s.b ++ vput x.req.toNat).length ≤ _; rw [List.length_append]; omega, ?_⟩
    exact (f2.weaken fun k _ h => .inr h).tr (Fx.set _ _ _ (.inl rfl))
  · obtain ⟨v, hc, hfz, hv, hwf⟩ := hM.cell lnCaps rfl
    simp only [List.cons.injEq, and_true] at hv
    subst hv
    have hr := unU32 hwf
    have e1 : IntKind.u64.wrap x.caps = (x.caps.toNat : Int) := by rw [IntKind.wrap_u64]; omega
    simp -implicitDefEqProofs only [go_sem, seval, hc, e1, Int.reduceBEq]
    refine (wnum_calls (n := x.caps.toNat) (by omega) hW (by omega)).mono ?_
    rintro v w2 ⟨rfl, hW2, f2⟩
    have hM2 := hM.fx f2 hnb (fun k hk _ => Wm.low hg.1 (by have := hU k hk; omega))
    obtain ⟨v, hc2, hfz2, _⟩ := hM2.cell lnCaps rfl
    simp -implicitDefEqProofs only [go_sem, seval, hc2, hfz2]
    have hlen := vput_u64 (n := x.caps.toNat) (by omega)
    refine ⟨rfl, hM2.set lnCaps (fun h => by have := hU bx h; omega) (y := (0 : Int)) ⟨rfl, rfl⟩ (by decide), hW2.fx (Fx.set (m := only bx) _ _ _ rfl) (fun k hk _ e => by have : k = bx := e; omega), by show (s.b ++ vput x.caps.toNat).length ≤ _; rw [List.length_append]; omega, ?_⟩
    exact (f2.weaken fun k _ h => .inr h).tr (Fx.set _ _ _ (.inl rfl))
  · obtain ⟨v, hc, hfz, hv, hwf⟩ := hM.cell lnToken rfl
    simp only [List.cons.injEq, and_true] at hv
    subst hv
    have hr := unU64 hwf
    have e1 : x.token = (x.token.toNat : Int) := by omega
    rw [e1] at hc
    simp -implicitDefEqProofs only [go_sem, seval, hc, Int.reduceBEq]
    refine (wnum_calls (n := x.token.toNat) (by omega) hW (by omega)).mono ?_
    rintro v w2 ⟨rfl, hW2, f2⟩
    have hM2 := hM.fx f2 hnb (fun k hk _ => Wm.low hg.1 (by have := hU k hk; omega))
    obtain ⟨v, hc2, hfz2, _⟩ := hM2.cell lnToken rfl
    simp -implicitDefEqProofs only [go_sem, seval, hc2, hfz2]
    have hlen := vput_u64 (n := x.token.toNat) (by omega)
    refine ⟨rfl, hM2.set lnToken (fun h => by have := hU bx h; omega) (y := (0 : Int)) ⟨rfl, rfl⟩ (by decide), hW2.fx (Fx.set (m := only bx) _ _ _ rfl) (fun k hk _ e => by have : k = bx := e; omega), by show (s.b ++ vput x.token.toNat).length ≤ _; rw [List.length_append]; omega, ?_⟩
    exact (f2.weaken fun k _ h => .inr h).tr (Fx.set _ _ _ (.inl rfl))
  · obtain ⟨v, hc, hfz, hv, hwf⟩ := hM.cell lnCode rfl
    simp only [List.cons.injEq, and_true] at hv
    subst hv
    have hr := wf_u8' hwf
    have e1 : IntKind.u64.wrap x.code = (x.code.toNat : Int) := by rw [IntKind.wrap_u64]; omega
    simp -implicitDefEqProofs only [go_sem, seval, hc, e1, Int.reduceBEq]
    refine (wnum_calls (n := x.code.toNat) (by omega) hW (by omega)).mono ?_
    rintro v w2 ⟨rfl, hW2, f2⟩
    have hM2 := hM.fx f2 hnb (fun k hk _ => Wm.low hg.1 (by have := hU k hk; omega))
    obtain ⟨v, hc2, hfz2, _⟩ := hM2.cell lnCode rfl
    simp -implicitDefEqProofs only [go_sem, seval, hc2, hfz2]
    have hlen := vput_u64 (n := x.code.toNat) (by omega)
    refine ⟨rfl, hM2.set lnCode (fun h => by have := hU bx h; omega) (y := (0 : Int)) ⟨rfl, rfl⟩ (by decide), hW2.fx (Fx.set (m := only bx) _ _ _ rfl) (fun k hk _ e => by have : k = bx := e; omega), by show (s.b ++ vput x.code.toNat).length ≤ _; rw [List.length_append]; omega, ?_⟩
    exact (f2.weaken fun k _ h => .inr h).tr (Fx.set _ _ _ (.inl rfl))
  · obtain ⟨v, hc, hfz, hv, hwf⟩ := hM.cell lnN rfl
    simp only [List.cons.injEq, and_true] at hv
    subst hv
    have hr := unU32 hwf
    have e1 : IntKind.u64.wrap x.n = (x.n.toNat : Int) := by rw [IntKind.wrap_u64]; omega
    simp -implicitDefEqProofs only [go_sem, seval, hc, e1, Int.reduceBEq]
    refine (wnum_calls (n := x.n.toNat) (by omega) hW (by omega)).mono ?_
    rintro v w2 ⟨rfl, hW2, f2⟩
    have hM2 := hM.fx f2 hnb (fun k hk _ => Wm.low hg.1 (by have := hU k hk; omega))
    obtain ⟨v, hc2, hfz2, _⟩ := hM2.cell lnN rfl
    simp -implicitDefEqProofs only [go_sem, seval, hc2, hfz2]
    have hlen := vput_u64 (n := x.n.toNat) (by omega)
    refine ⟨rfl, hM2.set lnN (fun h => by have := hU bx h; omega) (y := (0 : Int)) ⟨rfl, rfl⟩ (by decide), hW2.fx (Fx.set (m := only bx) _ _ _ rfl) (fun k hk _ e => by have : k = bx := e; omega), by show (s.b ++ vput x.n.toNat).length ≤ _; rw [List.length_append]; omega, ?_⟩
    exact (f2.weaken fun k _ h => .inr h).tr (Fx.set _ _ _ (.inl rfl))
  · obtain ⟨v, hc, hfz, hv⟩ := hM.cell lnName rfl
    obtain ⟨hvv, hsz⟩ := hv
    simp only [List.cons.injEq, and_true] at hvv
    subst hvv
    simp -implicitDefEqProofs only [go_sem, seval, hc, Int.reduceBEq]
    refine (wtext_calls x.name hsz hW (by omega)).mono ?_
    rintro v w2 ⟨rfl, hW2, f2⟩
    have hM2 := hM.fx f2 hnb (fun k hk _ => Wm.low hg.1 (by have := hU k hk; omega))
    obtain ⟨v, hc2, hfz2, _⟩ := hM2.cell lnName rfl
    simp -implicitDefEqProofs only [go_sem, seval, hc2, hfz2]
    refine ⟨rfl, hM2.set lnName (fun h => by have := hU bx h; omega) (y := (⟨#[]⟩ : ByteArray)) ⟨rfl, by decide⟩ (by decide), hW2.fx (Fx.set (m := only bx) _ _ _ rfl) (fun k hk _ e => by have : k = bx := e; omega), (by have := wr_text.len x.name s trivial; exact Nat.le_trans this (by omega)), ?_⟩
    exact (f2.weaken fun k _ h => .inr h).tr (Fx.set _ _ _ (.inl rfl))
  · obtain ⟨cs, hb, hrep⟩ := id hM
    have hcl : cs.length = 28 := kMsg.len hrep
    have hv : kConf.rep U w x.conf ((cs.drop 7).take 6) := lnConf.get hrep
    have hld := ldV_agg (P := Try.prog) (w := w) sh33 (kConf.len hv) (ad := At bx 7) (cells_in hb 7 6)
    simp -implicitDefEqProofs only [go_sem, seval, hld, Int.reduceBEq]
    refine (wconf_calls hv (fun k hk => by have := hU k hk; omega) hW (by omega)).mono ?_
    rintro v w2 ⟨rfl, hW2, f2⟩
    have hb2 := f2.blk hb hnb
    have hrep2 := kMsg.fx hrep f2 (fun k hk => Wm.low hg.1 (by have := hU k hk; omega))
    have S0 := stB (P := Try.prog) (o := 7) sz33 hb2 (by simp [hcl]) [.string ⟨#[]⟩, .int .u8 0, .int .u8 0, .bool false, .int .u8 0, .int .u16 0] rfl rfl
    simp -implicitDefEqProofs only [go_sem, seval, S0]
    refine ⟨rfl, ⟨_, hb2.put 7 [.string ⟨#[]⟩, .int .u8 0, .int .u8 0, .bool false, .int .u8 0, .int .u16 0], kMsg.fx (lnConf.put hrep2 zConf_rep) (Fx.put (m := only bx) _ _ _ _ rfl) fun k hk e => by have := hU k hk; have : k = bx := e; omega⟩, hW2.fx (Fx.put (m := only bx) _ _ _ _ rfl) (fun k hk _ e => by have : k = bx := e; omega), (by have := conf_len hv s; exact Nat.le_trans this (by omega)), ?_⟩
    exact (f2.weaken fun k _ h => .inr h).tr (Fx.put _ _ _ _ (.inl rfl))
  · obtain ⟨v, hc, hfz, hv⟩ := hM.cell lnChanges rfl
    obtain ⟨A, c, hvv, hlc, hcm, he⟩ := list_one hv
    simp only [List.cons.injEq, and_true] at hvv
    subst hvv
    have hml : c ≤ 9223372036854775807 := by simp only [maxLen] at hcm; omega
    simp -implicitDefEqProofs only [go_sem, seval, hc, Int.reduceBEq]
    refine (wlistChange_calls (one := wchange) (B := 526888) (U := U) (J := fun _ => True) hb39 (fun _ _ _ _ => trivial) (fun k hk => by have := hU k hk; omega) (fun w3 x3 s3 vs _ hr h3 hl3 v hv => by subst hv; exact wchange_calls hr (fun k hk => by have := hU k hk; omega) h3 hl3) (fun w3 x3 s3 vs hr => wr_change.len x3 s3 (change_range hr)) he (by omega) trivial hW (by omega)).mono ?_
    rintro v w2 ⟨rfl, hW2, f2⟩
    have hM2 := hM.fx f2 hnb (fun k hk _ => Wm.low hg.1 (by have := hU k hk; omega))
    obtain ⟨v, hc2, hfz2, _⟩ := hM2.cell lnChanges rfl
    simp -implicitDefEqProofs only [go_sem, seval, hc2, hfz2]
    refine ⟨rfl, hM2.set lnChanges (fun h => by have := hU bx h; omega) (y := []) (nil_rep _ _) (by decide), hW2.fx (Fx.set (m := only bx) _ _ _ rfl) (fun k hk _ e => by have : k = bx := e; omega), (by have := wr_changes.len x.changes s (changes_range he); exact Nat.le_trans this (by omega)), ?_⟩
    exact (f2.weaken fun k _ h => .inr h).tr (Fx.set _ _ _ (.inl rfl))
  · obtain ⟨v, hc, hfz, hv, hwf⟩ := hM.cell lnId rfl
    simp only [List.cons.injEq, and_true] at hv
    subst hv
    have hr := unU32 hwf
    have e1 : IntKind.u64.wrap x.id = (x.id.toNat : Int) := by rw [IntKind.wrap_u64]; omega
    simp -implicitDefEqProofs only [go_sem, seval, hc, e1, Int.reduceBEq]
    refine (wnum_calls (n := x.id.toNat) (by omega) hW (by omega)).mono ?_
    rintro v w2 ⟨rfl, hW2, f2⟩
    have hM2 := hM.fx f2 hnb (fun k hk _ => Wm.low hg.1 (by have := hU k hk; omega))
    obtain ⟨v, hc2, hfz2, _⟩ := hM2.cell lnId rfl
    simp -implicitDefEqProofs only [go_sem, seval, hc2, hfz2]
    have hlen := vput_u64 (n := x.id.toNat) (by omega)
    refine ⟨rfl, hM2.set lnId (fun h => by have := hU bx h; omega) (y := (0 : Int)) ⟨rfl, rfl⟩ (by decide), hW2.fx (Fx.set (m := only bx) _ _ _ rfl) (fun k hk _ e => by have : k = bx := e; omega), by show (s.b ++ vput x.id.toNat).length ≤ _; rw [List.length_append]; omega, ?_⟩
    exact (f2.weaken fun k _ h => .inr h).tr (Fx.set _ _ _ (.inl rfl))
  · obtain ⟨v, hc, hfz, hv⟩ := hM.cell lnVec rfl
    obtain ⟨A, c, hvv, hlc, hcm, he⟩ := list_one hv
    simp only [List.cons.injEq, and_true] at hvv
    subst hvv
    have hml : c ≤ 9223372036854775807 := by simp only [maxLen] at hcm; omega
    simp -implicitDefEqProofs only [go_sem, seval, hc, Int.reduceBEq]
    refine (wvec_calls he (fun k hk => by have := hU k hk; omega) (by omega) hW (by omega)).mono ?_
    rintro v w2 ⟨rfl, hW2, f2⟩
    have hM2 := hM.fx f2 hnb (fun k hk _ => Wm.low hg.1 (by have := hU k hk; omega))
    obtain ⟨v, hc2, hfz2, _⟩ := hM2.cell lnVec rfl
    simp -implicitDefEqProofs only [go_sem, seval, hc2, hfz2]
    refine ⟨rfl, hM2.set lnVec (fun h => by have := hU bx h; omega) (y := []) (nil_rep _ _) (by decide), hW2.fx (Fx.set (m := only bx) _ _ _ rfl) (fun k hk _ e => by have : k = bx := e; omega), (by have := wr_vec.len x.vec s (ints_range he); exact Nat.le_trans this (by omega)), ?_⟩
    exact (f2.weaken fun k _ h => .inr h).tr (Fx.set _ _ _ (.inl rfl))
  · obtain ⟨v, hc, hfz, hv, hwf⟩ := hM.cell lnK rfl
    simp only [List.cons.injEq, and_true] at hv
    subst hv
    have hr := unU16 hwf
    have e1 : IntKind.u64.wrap x.k = (x.k.toNat : Int) := by rw [IntKind.wrap_u64]; omega
    simp -implicitDefEqProofs only [go_sem, seval, hc, e1, Int.reduceBEq]
    refine (wnum_calls (n := x.k.toNat) (by omega) hW (by omega)).mono ?_
    rintro v w2 ⟨rfl, hW2, f2⟩
    have hM2 := hM.fx f2 hnb (fun k hk _ => Wm.low hg.1 (by have := hU k hk; omega))
    obtain ⟨v, hc2, hfz2, _⟩ := hM2.cell lnK rfl
    simp -implicitDefEqProofs only [go_sem, seval, hc2, hfz2]
    have hlen := vput_u64 (n := x.k.toNat) (by omega)
    refine ⟨rfl, hM2.set lnK (fun h => by have := hU bx h; omega) (y := (0 : Int)) ⟨rfl, rfl⟩ (by decide), hW2.fx (Fx.set (m := only bx) _ _ _ rfl) (fun k hk _ e => by have : k = bx := e; omega), by show (s.b ++ vput x.k.toNat).length ≤ _; rw [List.length_append]; omega, ?_⟩
    exact (f2.weaken fun k _ h => .inr h).tr (Fx.set _ _ _ (.inl rfl))
  · obtain ⟨v, hc, hfz, hv, hwf⟩ := hM.cell lnWidth rfl
    simp only [List.cons.injEq, and_true] at hv
    subst hv
    have hr := unU16 hwf
    have e1 : IntKind.u64.wrap x.width = (x.width.toNat : Int) := by rw [IntKind.wrap_u64]; omega
    simp -implicitDefEqProofs only [go_sem, seval, hc, e1, Int.reduceBEq]
    refine (wnum_calls (n := x.width.toNat) (by omega) hW (by omega)).mono ?_
    rintro v w2 ⟨rfl, hW2, f2⟩
    have hM2 := hM.fx f2 hnb (fun k hk _ => Wm.low hg.1 (by have := hU k hk; omega))
    obtain ⟨v, hc2, hfz2, _⟩ := hM2.cell lnWidth rfl
    simp -implicitDefEqProofs only [go_sem, seval, hc2, hfz2]
    have hlen := vput_u64 (n := x.width.toNat) (by omega)
    refine ⟨rfl, hM2.set lnWidth (fun h => by have := hU bx h; omega) (y := (0 : Int)) ⟨rfl, rfl⟩ (by decide), hW2.fx (Fx.set (m := only bx) _ _ _ rfl) (fun k hk _ e => by have : k = bx := e; omega), by show (s.b ++ vput x.width.toNat).length ≤ _; rw [List.length_append]; omega, ?_⟩
    exact (f2.weaken fun k _ h => .inr h).tr (Fx.set _ _ _ (.inl rfl))
  · obtain ⟨cs, hb, hrep⟩ := id hM
    have hcl : cs.length = 28 := kMsg.len hrep
    have hv : kFilter.rep U w x.filter ((cs.drop 18).take 3) := lnFilter.get hrep
    have hld := ldV_agg (P := Try.prog) (w := w) sh38 (kFilter.len hv) (ad := At bx 18) (cells_in hb 18 3)
    simp -implicitDefEqProofs only [go_sem, seval, hld, Int.reduceBEq]
    refine (wfilter_calls hv (fun k hk => by have := hU k hk; omega) hW (by omega)).mono ?_
    rintro v w2 ⟨rfl, hW2, f2⟩
    have hb2 := f2.blk hb hnb
    have hrep2 := kMsg.fx hrep f2 (fun k hk => Wm.low hg.1 (by have := hU k hk; omega))
    have S0 := stB (P := Try.prog) (o := 18) sz38 hb2 (by simp [hcl]) [.slice none 0 0, .slice none 0 0, .slice none 0 0] rfl rfl
    simp -implicitDefEqProofs only [go_sem, seval, S0]
    refine ⟨rfl, ⟨_, hb2.put 18 [.slice none 0 0, .slice none 0 0, .slice none 0 0], kMsg.fx (lnFilter.put hrep2 zFilter_rep) (Fx.put (m := only bx) _ _ _ _ rfl) fun k hk e => by have := hU k hk; have : k = bx := e; omega⟩, hW2.fx (Fx.put (m := only bx) _ _ _ _ rfl) (fun k hk _ e => by have : k = bx := e; omega), (by have := filter_len hv s; exact Nat.le_trans this (by omega)), ?_⟩
    exact (f2.weaken fun k _ h => .inr h).tr (Fx.put _ _ _ _ (.inl rfl))
  · obtain ⟨v, hc, hfz, hv, hwf⟩ := hM.cell lnNum rfl
    simp only [List.cons.injEq, and_true] at hv
    subst hv
    have hr := unU32 hwf
    have e1 : IntKind.u64.wrap x.num = (x.num.toNat : Int) := by rw [IntKind.wrap_u64]; omega
    simp -implicitDefEqProofs only [go_sem, seval, hc, e1, Int.reduceBEq]
    refine (wnum_calls (n := x.num.toNat) (by omega) hW (by omega)).mono ?_
    rintro v w2 ⟨rfl, hW2, f2⟩
    have hM2 := hM.fx f2 hnb (fun k hk _ => Wm.low hg.1 (by have := hU k hk; omega))
    obtain ⟨v, hc2, hfz2, _⟩ := hM2.cell lnNum rfl
    simp -implicitDefEqProofs only [go_sem, seval, hc2, hfz2]
    have hlen := vput_u64 (n := x.num.toNat) (by omega)
    refine ⟨rfl, hM2.set lnNum (fun h => by have := hU bx h; omega) (y := (0 : Int)) ⟨rfl, rfl⟩ (by decide), hW2.fx (Fx.set (m := only bx) _ _ _ rfl) (fun k hk _ e => by have : k = bx := e; omega), by show (s.b ++ vput x.num.toNat).length ≤ _; rw [List.length_append]; omega, ?_⟩
    exact (f2.weaken fun k _ h => .inr h).tr (Fx.set _ _ _ (.inl rfl))
  · simp -implicitDefEqProofs only [go_sem, seval, Int.reduceBEq]
    refine (wrest_calls (f := 112) (by decide) hM hU hbx hW hl).mono ?_
    rintro v w2 ⟨rfl, r⟩
    simp -implicitDefEqProofs only [go_sem, seval]
    exact ⟨rfl, r⟩
  · simp -implicitDefEqProofs only [go_sem, seval, Int.reduceBEq]
    refine (wrest_calls (f := 98) (by decide) hM hU hbx hW hl).mono ?_
    rintro v w2 ⟨rfl, r⟩
    simp -implicitDefEqProofs only [go_sem, seval]
    exact ⟨rfl, r⟩
  · simp -implicitDefEqProofs only [go_sem, seval, Int.reduceBEq]
    refine (wrest_calls (f := 86) (by decide) hM hU hbx hW hl).mono ?_
    rintro v w2 ⟨rfl, r⟩
    simp -implicitDefEqProofs only [go_sem, seval]
    exact ⟨rfl, r⟩
  · simp -implicitDefEqProofs only [go_sem, seval, Int.reduceBEq]
    refine (wrest_calls (f := 83) (by decide) hM hU hbx hW hl).mono ?_
    rintro v w2 ⟨rfl, r⟩
    simp -implicitDefEqProofs only [go_sem, seval]
    exact ⟨rfl, r⟩
  · simp -implicitDefEqProofs only [go_sem, seval, Int.reduceBEq]
    refine (wrest_calls (f := 73) (by decide) hM hU hbx hW hl).mono ?_
    rintro v w2 ⟨rfl, r⟩
    simp -implicitDefEqProofs only [go_sem, seval]
    exact ⟨rfl, r⟩
  · simp -implicitDefEqProofs only [go_sem, seval, Int.reduceBEq]
    refine (wrest_calls (f := 72) (by decide) hM hU hbx hW hl).mono ?_
    rintro v w2 ⟨rfl, r⟩
    simp -implicitDefEqProofs only [go_sem, seval]
    exact ⟨rfl, r⟩
end
end Go.Proofs.Ytnlibeaainbipaa.F
