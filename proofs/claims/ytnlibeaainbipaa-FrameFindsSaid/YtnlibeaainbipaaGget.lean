/- A message read. Conditions: the bytes are data of their kind. -/
import Derived.Test.YtnlibeaainbipaaGrfield
namespace Go.Proofs.Ytnlibeaainbipaa.V
/-- All the letters' fields read. -/
def getFold (l : List Int) (p : Msg × RS) : Msg × RS := l.foldl (fun p f => rfieldP f p) p
def getMsg (kind : Int) (b : List Int) : Msg × Int := match form kind with
  | none => (zMsg 0, 61)
  | some l => if (rend (getFold (nums l) (zMsg kind, ⟨b, 0⟩)).2).why = 0 then ((getFold (nums l) (zMsg kind, ⟨b, 0⟩)).1, 0) else (zMsg 0, (rend (getFold (nums l) (zMsg kind, ⟨b, 0⟩)).2).why)
end Go.Proofs.Ytnlibeaainbipaa.V
namespace Go.Proofs.Ytnlibeaainbipaa.M
open Go.RowKit Go.Proofs.Ytnlibeaainbipaa.V
theorem zMsg_rep {U : Nat → Prop} {w : World} {k : Int} (h0 : 0 ≤ k) (h1 : k ≤ 255) : kMsg.rep U w (zMsg k) [.int .u8 k, .int .u32 0, .int .u32 0, .int .u64 0, .int .u8 0, .int .u32 0, .string ⟨#[]⟩, .string ⟨#[]⟩, .int .u8 0, .int .u8 0, .bool false, .int .u8 0, .int .u16 0, .slice none 0 0, .int .u32 0, .slice none 0 0, .int .u16 0, .int .u16 0, .slice none 0 0, .slice none 0 0, .slice none 0 0, .int .u32 0, .int .u32 0, .slice none 0 0, .int .u64 0, .slice none 0 0, .slice none 0 0, .slice none 0 0] :=
  ⟨[_], _, rfl, ⟨rfl, u8_wf h0 h1⟩, [_], _, rfl, ⟨rfl, rfl⟩, [_], _, rfl, ⟨rfl, rfl⟩, [_], _, rfl, ⟨rfl, rfl⟩, [_], _, rfl, ⟨rfl, rfl⟩, [_], _, rfl, ⟨rfl, rfl⟩, [_], _, rfl, ⟨rfl, Nat.zero_le _⟩, [_, _, _, _, _, _], _, rfl, zConf_rep,
    [_], _, rfl, nil_rep _ _, [_], _, rfl, ⟨rfl, rfl⟩, [_], _, rfl, nil_rep _ _, [_], _, rfl, ⟨rfl, rfl⟩, [_], _, rfl, ⟨rfl, rfl⟩, [_, _, _], _, rfl, zFilter_rep, [_], _, rfl, ⟨rfl, rfl⟩, [_], _, rfl, ⟨rfl, rfl⟩, [_], _, rfl, nil_rep _ _, [_], _, rfl, ⟨rfl, rfl⟩,
    [_], _, rfl, nil_rep _ _, [_], [_], rfl, nil_rep _ _, nil_rep _ _⟩
theorem RdS.iter {t : TypeId} {U : Nat → Prop} {w w' : World} {g it pos : Nat} {s : RS} {z : ByteArray} (h : RdS t U w g s) (hi : StrIter w it z pos) (hU : ¬ U it) (f : Fx (only it) w w') : RdS t U w' g s := by
  obtain ⟨A, c, hb, h1, h2, he⟩ := h
  exact ⟨A, c, f.blk hb (fun x => hi.not_blk hb x), h1, h2, he.fx f (fun k hk e => by have : k = it := e; subst this; exact hU hk)⟩
end Go.Proofs.Ytnlibeaainbipaa.M
namespace Go.Proofs.Ytnlibeaainbipaa.F
open Go.RowKit Go.Proofs.Ytnlibeaainbipaa.M Go.Proofs.Ytnlibeaainbipaa.V
set_option linter.unusedSimpArgs false
set_option linter.unusedVariables false
set_option maxRecDepth 20000
/-- The two lists of numbers in a message stand in memory from lo on. -/
def OwnAt (lo : Nat) (w : World) (bx : Nat) (x : Msg) : Prop := ∃ vv vb, w.cell? (At bx 15) = some vv ∧ OwnI 21 .i32 lo w vv x.vec ∧ w.cell? (At bx 23) = some vb ∧ OwnI 5 .u8 lo w vb x.bytes
def OwnIn (lo : Nat) (w : World) (cs : List Value) (x : Msg) : Prop := ∃ vv vb, cs[15]? = some vv ∧ OwnI 21 .i32 lo w vv x.vec ∧ cs[23]? = some vb ∧ OwnI 5 .u8 lo w vb x.bytes
theorem OwnAt.fx {lo bx : Nat} {m : Nat → Prop} {w w' : World} {x y : Msg} {U : Nat → Prop} (hM : MsgAt 42 U w bx y) (h : OwnAt lo w bx x) (f : Fx m w w') (hb : ¬ m bx) (hm : ∀ k, m k → k < lo) : OwnAt lo w' bx x := by
  obtain ⟨vv, vb, c1, o1, c2, o2⟩ := h
  exact ⟨vv, vb, (cell_fx hM f hb 15).trans c1, o1.fx f (fun k hk e => by have := (o1.lt hk).1; have := hm k e; omega), (cell_fx hM f hb 23).trans c2, o2.fx f (fun k hk e => by have := (o2.lt hk).1; have := hm k e; omega)⟩
theorem OwnAt.field {lo bx g f : Nat} {y : Int} {w w' : World} {p : Msg × RS} (h : OwnAt lo w bx p.1) (hy : y ∈ letters) (fx : Fx (fun k => k = g ∨ k = bx) w w') (hg : g < lo) (hb : bx < lo) (hl : lo ≤ w.heap.size) (ho : Owns w w' bx y (rfieldP y p).1) : OwnAt lo w' bx (rfieldP y p).1 := by
  obtain ⟨vv, vb, c1, o1, c2, o2⟩ := h
  obtain ⟨a1, a2, a3, a4⟩ := ho
  have o1' := o1.fx fx (fun k hk e => by have := (o1.lt hk).1; rcases e with e | e <;> omega)
  have o2' := o2.fx fx (fun k hk e => by have := (o2.lt hk).1; rcases e with e | e <;> omega)
  have e1 : y ≠ 118 → (rfieldP y p).1.vec = p.1.vec := fun hn => by
    rcases letters_cases hy with rfl|rfl|rfl|rfl|rfl|rfl|rfl|rfl|rfl|rfl|rfl|rfl|rfl|rfl|rfl|rfl|rfl|rfl|rfl|rfl <;> first | rfl | exact absurd rfl hn
  have e2 : y ≠ 98 → (rfieldP y p).1.bytes = p.1.bytes := fun hn => by
    rcases letters_cases hy with rfl|rfl|rfl|rfl|rfl|rfl|rfl|rfl|rfl|rfl|rfl|rfl|rfl|rfl|rfl|rfl|rfl|rfl|rfl|rfl <;> first | rfl | exact absurd rfl hn
  have k1 : ∃ vv, w'.cell? (At bx 15) = some vv ∧ OwnI 21 .i32 lo w' vv (rfieldP y p).1.vec := by
    by_cases hn : y = 118
    · obtain ⟨v, hc, hv⟩ := a2 hn
      exact ⟨v, hc, hv.lower hl⟩
    · exact ⟨vv, (a1 hn).trans c1, by rw [e1 hn]; exact o1'⟩
  have k2 : ∃ vb, w'.cell? (At bx 23) = some vb ∧ OwnI 5 .u8 lo w' vb (rfieldP y p).1.bytes := by
    by_cases hn : y = 98
    · obtain ⟨v, hc, hv⟩ := a4 hn
      exact ⟨v, hc, hv.lower hl⟩
    · exact ⟨vb, (a3 hn).trans c2, by rw [e2 hn]; exact o2'⟩
  obtain ⟨v1, x1, y1⟩ := k1
  obtain ⟨v2, x2, y2⟩ := k2
  exact ⟨v1, v2, x1, y1, x2, y2⟩
theorem get_own_calls {w : World} {kind : Int} {A : Option Addr} {c : Nat} {b : List Int} (hk0 : 0 ≤ kind) (hk1 : kind ≤ 255) (hc : b.length ≤ c) (hm : c ≤ maxLen) (he : Elems (Kind.int .u8) (fun k => k < w.heap.size) w A b) :
    callK Try.prog 20 #[.int .u8 kind, .slice A b.length c] w fun v w' => ∃ cs, v = .tuple #[.agg (List.toArray cs), .int .i64 (getMsg kind b).2] ∧ kMsg.rep (fun k => w.heap.size ≤ k) w' (getMsg kind b).1 cs ∧ OwnIn w.heap.size w' cs (getMsg kind b).1 ∧ Keep w w' := by
  refine callK_of Try.func20 c20 r20 (by exact Nat.le_of_ble_eq_true rfl) ?_
  rw [m20]
  simp -implicitDefEqProofs only [go_sem, seval]
  have hb : Blk _ _ _ _ := Blk.new w 42 #[.int .u8 0, .int .u32 0, .int .u32 0, .int .u64 0, .int .u8 0, .int .u32 0, .string ⟨#[]⟩, .string ⟨#[]⟩, .int .u8 0, .int .u8 0, .bool false, .int .u8 0, .int .u16 0, .slice none 0 0, .int .u32 0, .slice none 0 0, .int .u16 0, .int .u16 0, .slice none 0 0, .slice none 0 0, .slice none 0 0, .int .u32 0, .int .u32 0, .slice none 0 0, .int .u64 0, .slice none 0 0, .slice none 0 0, .slice none 0 0]
  have kA : Keep w (w.alloc (.cells #[.int .u8 0, .int .u32 0, .int .u32 0, .int .u64 0, .int .u8 0, .int .u32 0, .string ⟨#[]⟩, .string ⟨#[]⟩, .int .u8 0, .int .u8 0, .bool false, .int .u8 0, .int .u16 0, .slice none 0 0, .int .u32 0, .slice none 0 0, .int .u16 0, .int .u16 0, .slice none 0 0, .slice none 0 0, .slice none 0 0, .int .u32 0, .int .u32 0, .slice none 0 0, .int .u64 0, .slice none 0 0, .slice none 0 0, .slice none 0 0] 42)) := Fx.alloc _ w _
  have s1 := size_alloc w (.cells #[.int .u8 0, .int .u32 0, .int .u32 0, .int .u64 0, .int .u8 0, .int .u32 0, .string ⟨#[]⟩, .string ⟨#[]⟩, .int .u8 0, .int .u8 0, .bool false, .int .u8 0, .int .u16 0, .slice none 0 0, .int .u32 0, .slice none 0 0, .int .u16 0, .int .u16 0, .slice none 0 0, .slice none 0 0, .slice none 0 0, .int .u32 0, .int .u32 0, .slice none 0 0, .int .u64 0, .slice none 0 0, .slice none 0 0, .slice none 0 0] 42)
  generalize w.alloc (.cells #[.int .u8 0, .int .u32 0, .int .u32 0, .int .u64 0, .int .u8 0, .int .u32 0, .string ⟨#[]⟩, .string ⟨#[]⟩, .int .u8 0, .int .u8 0, .bool false, .int .u8 0, .int .u16 0, .slice none 0 0, .int .u32 0, .slice none 0 0, .int .u16 0, .int .u16 0, .slice none 0 0, .slice none 0 0, .slice none 0 0, .int .u32 0, .int .u32 0, .slice none 0 0, .int .u64 0, .slice none 0 0, .slice none 0 0, .slice none 0 0] 42) = w1 at *
  obtain ⟨rb, hrb⟩ : ∃ rb, rb = w.heap.size := ⟨_, rfl⟩
  rw [← hrb] at hb s1 ⊢
  have fin : ∀ {wz : World} {cs : List Value} {x : Msg}, Keep w wz → Blk wz rb 42 #[.int .u8 0, .int .u32 0, .int .u32 0, .int .u64 0, .int .u8 0, .int .u32 0, .string ⟨#[]⟩, .string ⟨#[]⟩, .int .u8 0, .int .u8 0, .bool false, .int .u8 0, .int .u16 0, .slice none 0 0, .int .u32 0, .slice none 0 0, .int .u16 0, .int .u16 0, .slice none 0 0, .slice none 0 0, .slice none 0 0, .int .u32 0, .int .u32 0, .slice none 0 0, .int .u64 0, .slice none 0 0, .slice none 0 0, .slice none 0 0] → kMsg.rep (fun k => rb + 1 ≤ k) wz x cs → kMsg.rep (fun k => rb ≤ k) (putW wz rb 0 cs) x cs ∧ Keep w (putW wz rb 0 cs) := by
    intro wz cs x kz hz hr
    have f : Fx (only rb) wz (putW wz rb 0 cs) := Fx.put _ _ _ _ rfl
    exact ⟨kMsg.mono (kMsg.fx hr f (fun k hk e => by have : k = rb := e; omega)) (fun k _ hk => by omega), kz.new f (fun k e hk => by have : k = rb := e; omega)⟩
  refine (fields_calls kind w1).mono ?_
  rintro v w2 ⟨rfl, rfl⟩
  unfold fieldsV
  have hgm : getMsg kind b = match form kind with
    | none => (zMsg 0, 61)
    | some l => if (rend (getFold (nums l) (zMsg kind, ⟨b, 0⟩)).2).why = 0 then ((getFold (nums l) (zMsg kind, ⟨b, 0⟩)).1, 0) else (zMsg 0, (rend (getFold (nums l) (zMsg kind, ⟨b, 0⟩)).2).why) := rfl
  cases hf : form kind with
  | none =>
    rw [hf] at hgm
    rw [hgm]
    have S0 := stB (P := Try.prog) (o := 0) sz42 hb (by decide)
    have L0 := ldP (P := Try.prog) sh42 hb rfl
    simp -implicitDefEqProofs only [go_sem, seval, Option.getD_none, Option.isSome_none, S0, L0]
    obtain ⟨h1, h2⟩ := fin kA hb (zMsg_rep (k := 0) (by decide) (by decide))
    exact ⟨_, rfl, h1, ⟨_, _, rfl, OwnI.nil _ _ _ _, rfl, OwnI.nil _ _ _ _⟩, h2⟩
  | some l =>
    rw [hf] at hgm
    simp only at hgm
    obtain ⟨hl7, hlet⟩ := form_ok hf
    have hb2 : Blk _ _ _ _ := Blk.new w2 42 #[.int .u8 0, .int .u32 0, .int .u32 0, .int .u64 0, .int .u8 0, .int .u32 0, .string ⟨#[]⟩, .string ⟨#[]⟩, .int .u8 0, .int .u8 0, .bool false, .int .u8 0, .int .u16 0, .slice none 0 0, .int .u32 0, .slice none 0 0, .int .u16 0, .int .u16 0, .slice none 0 0, .slice none 0 0, .slice none 0 0, .int .u32 0, .int .u32 0, .slice none 0 0, .int .u64 0, .slice none 0 0, .slice none 0 0, .slice none 0 0]
    have k2 : Keep w2 (w2.alloc (.cells #[.int .u8 0, .int .u32 0, .int .u32 0, .int .u64 0, .int .u8 0, .int .u32 0, .string ⟨#[]⟩, .string ⟨#[]⟩, .int .u8 0, .int .u8 0, .bool false, .int .u8 0, .int .u16 0, .slice none 0 0, .int .u32 0, .slice none 0 0, .int .u16 0, .int .u16 0, .slice none 0 0, .slice none 0 0, .slice none 0 0, .int .u32 0, .int .u32 0, .slice none 0 0, .int .u64 0, .slice none 0 0, .slice none 0 0, .slice none 0 0] 42)) := Fx.alloc _ _ _
    have S0 := stB (P := Try.prog) (o := 0) sz42 hb2 (by decide)
    simp -implicitDefEqProofs only [go_sem, seval, Option.getD_some, Option.isSome_some, S0]
    have s2 := size_alloc w2 (.cells #[.int .u8 0, .int .u32 0, .int .u32 0, .int .u64 0, .int .u8 0, .int .u32 0, .string ⟨#[]⟩, .string ⟨#[]⟩, .int .u8 0, .int .u8 0, .bool false, .int .u8 0, .int .u16 0, .slice none 0 0, .int .u32 0, .slice none 0 0, .int .u16 0, .int .u16 0, .slice none 0 0, .slice none 0 0, .slice none 0 0, .int .u32 0, .int .u32 0, .slice none 0 0, .int .u64 0, .slice none 0 0, .slice none 0 0, .slice none 0 0] 42)
    have hb3 : Blk _ _ _ #[.int .u8 kind, .int .u32 0, .int .u32 0, .int .u64 0, .int .u8 0, .int .u32 0, .string ⟨#[]⟩, .string ⟨#[]⟩, .int .u8 0, .int .u8 0, .bool false, .int .u8 0, .int .u16 0, .slice none 0 0, .int .u32 0, .slice none 0 0, .int .u16 0, .int .u16 0, .slice none 0 0, .slice none 0 0, .slice none 0 0, .int .u32 0, .int .u32 0, .slice none 0 0, .int .u64 0, .slice none 0 0, .slice none 0 0, .slice none 0 0] := hb2.put 0 [.int .u8 kind, .int .u32 0, .int .u32 0, .int .u64 0, .int .u8 0, .int .u32 0, .string ⟨#[]⟩, .string ⟨#[]⟩, .int .u8 0, .int .u8 0, .bool false, .int .u8 0, .int .u16 0, .slice none 0 0, .int .u32 0, .slice none 0 0, .int .u16 0, .int .u16 0, .slice none 0 0, .slice none 0 0, .slice none 0 0, .int .u32 0, .int .u32 0, .slice none 0 0, .int .u64 0, .slice none 0 0, .slice none 0 0, .slice none 0 0]
    have k3 : Keep w2 (putW (w2.alloc (.cells #[.int .u8 0, .int .u32 0, .int .u32 0, .int .u64 0, .int .u8 0, .int .u32 0, .string ⟨#[]⟩, .string ⟨#[]⟩, .int .u8 0, .int .u8 0, .bool false, .int .u8 0, .int .u16 0, .slice none 0 0, .int .u32 0, .slice none 0 0, .int .u16 0, .int .u16 0, .slice none 0 0, .slice none 0 0, .slice none 0 0, .int .u32 0, .int .u32 0, .slice none 0 0, .int .u64 0, .slice none 0 0, .slice none 0 0, .slice none 0 0] 42)) w2.heap.size 0 [.int .u8 kind, .int .u32 0, .int .u32 0, .int .u64 0, .int .u8 0, .int .u32 0, .string ⟨#[]⟩, .string ⟨#[]⟩, .int .u8 0, .int .u8 0, .bool false, .int .u8 0, .int .u16 0, .slice none 0 0, .int .u32 0, .slice none 0 0, .int .u16 0, .int .u16 0, .slice none 0 0, .slice none 0 0, .slice none 0 0, .int .u32 0, .int .u32 0, .slice none 0 0, .int .u64 0, .slice none 0 0, .slice none 0 0, .slice none 0 0]) := k2.new (Fx.put (m := only w2.heap.size) _ _ _ _ rfl) (fun k e hk => by have : k = w2.heap.size := e; omega)
    have s3 := size_put (w2.alloc (.cells #[.int .u8 0, .int .u32 0, .int .u32 0, .int .u64 0, .int .u8 0, .int .u32 0, .string ⟨#[]⟩, .string ⟨#[]⟩, .int .u8 0, .int .u8 0, .bool false, .int .u8 0, .int .u16 0, .slice none 0 0, .int .u32 0, .slice none 0 0, .int .u16 0, .int .u16 0, .slice none 0 0, .slice none 0 0, .slice none 0 0, .int .u32 0, .int .u32 0, .slice none 0 0, .int .u64 0, .slice none 0 0, .slice none 0 0, .slice none 0 0] 42)) w2.heap.size 0 [.int .u8 kind, .int .u32 0, .int .u32 0, .int .u64 0, .int .u8 0, .int .u32 0, .string ⟨#[]⟩, .string ⟨#[]⟩, .int .u8 0, .int .u8 0, .bool false, .int .u8 0, .int .u16 0, .slice none 0 0, .int .u32 0, .slice none 0 0, .int .u16 0, .int .u16 0, .slice none 0 0, .slice none 0 0, .slice none 0 0, .int .u32 0, .int .u32 0, .slice none 0 0, .int .u64 0, .slice none 0 0, .slice none 0 0, .slice none 0 0]
    generalize putW (w2.alloc (.cells #[.int .u8 0, .int .u32 0, .int .u32 0, .int .u64 0, .int .u8 0, .int .u32 0, .string ⟨#[]⟩, .string ⟨#[]⟩, .int .u8 0, .int .u8 0, .bool false, .int .u8 0, .int .u16 0, .slice none 0 0, .int .u32 0, .slice none 0 0, .int .u16 0, .int .u16 0, .slice none 0 0, .slice none 0 0, .slice none 0 0, .int .u32 0, .int .u32 0, .slice none 0 0, .int .u64 0, .slice none 0 0, .slice none 0 0, .slice none 0 0] 42)) w2.heap.size 0 [.int .u8 kind, .int .u32 0, .int .u32 0, .int .u64 0, .int .u8 0, .int .u32 0, .string ⟨#[]⟩, .string ⟨#[]⟩, .int .u8 0, .int .u8 0, .bool false, .int .u8 0, .int .u16 0, .slice none 0 0, .int .u32 0, .slice none 0 0, .int .u16 0, .int .u16 0, .slice none 0 0, .slice none 0 0, .slice none 0 0, .int .u32 0, .int .u32 0, .slice none 0 0, .int .u64 0, .slice none 0 0, .slice none 0 0, .slice none 0 0] = w3 at *
    obtain ⟨bx, hbx⟩ : ∃ bx, bx = w2.heap.size := ⟨_, rfl⟩
    rw [← hbx] at hb3 ⊢
    have hrz : Blk w3 rb 42 #[.int .u8 0, .int .u32 0, .int .u32 0, .int .u64 0, .int .u8 0, .int .u32 0, .string ⟨#[]⟩, .string ⟨#[]⟩, .int .u8 0, .int .u8 0, .bool false, .int .u8 0, .int .u16 0, .slice none 0 0, .int .u32 0, .slice none 0 0, .int .u16 0, .int .u16 0, .slice none 0 0, .slice none 0 0, .slice none 0 0, .int .u32 0, .int .u32 0, .slice none 0 0, .int .u64 0, .slice none 0 0, .slice none 0 0, .slice none 0 0] := k3.blk hb (fun x => x)
    have kk3 := kA.tr k3
    have hbr := Blk.new w3 103 #[.slice A b.length c, .int .i64 0]
    have kB : Keep w3 (w3.alloc (.cells #[.slice A b.length c, .int .i64 0] 103)) := Fx.alloc _ _ _
    have s4 := size_alloc w3 (.cells #[.slice A b.length c, .int .i64 0] 103)
    have hb4 := kB.blk hb3 (fun x => x)
    have hrz4 := kB.blk hrz (fun x => x)
    have kk4 := kk3.tr kB
    generalize w3.alloc (.cells #[.slice A b.length c, .int .i64 0] 103) = w4 at *
    obtain ⟨g, hg⟩ : ∃ g, g = w3.heap.size := ⟨_, rfl⟩
    rw [← hg] at hbr ⊢
    have hR4 : RdS 103 (fun k => k < w.heap.size) w4 g ⟨b, 0⟩ := ⟨A, c, hbr, hc, hm, he.keep kk4⟩
    refine runK_of (rangeS_run Try.underlying9 l w4) ?_
    have hI := StrIter.new w4 l
    have kC : Keep w4 (w4.alloc (.stringIter l 0)) := Fx.alloc _ _ _
    have s5 := size_alloc w4 (.stringIter l 0)
    have hb5 := kC.blk hb4 (fun x => x)
    have hrz5 := kC.blk hrz4 (fun x => x)
    have hR5 := hR4.keep kC
    have kk5 := kk4.tr kC
    generalize hit : w4.heap.size = it at *
    generalize w4.alloc (.stringIter l 0) = w5 at *
    have hM5 : MsgAt 42 (fun k => rb + 1 ≤ k ∧ k ≠ g ∧ k ≠ bx ∧ k ≠ it) w5 bx (zMsg kind) := ⟨_, hb5, zMsg_rep hk0 hk1⟩
    obtain ⟨lo, hlo⟩ : ∃ lo, lo = w5.heap.size := ⟨_, rfl⟩
    simp -implicitDefEqProofs only [go_sem, seval]
    refine loop_intro (fun q f w' => ∃ (i : Nat) (p : Msg × RS), q = l.size - i ∧ i ≤ l.size ∧ f 4 = .pointer (some (At rb 0)) ∧ f 8 = .pointer (some (At bx 0)) ∧ f 9 = .pointer (some (At g 0)) ∧ f 27 = .pointer (some (At it 0)) ∧ getFold ((nums l).drop i) p = getFold (nums l) (zMsg kind, ⟨b, 0⟩) ∧
        StrIter w' it l i ∧ Blk w' rb 42 #[.int .u8 0, .int .u32 0, .int .u32 0, .int .u64 0, .int .u8 0, .int .u32 0, .string ⟨#[]⟩, .string ⟨#[]⟩, .int .u8 0, .int .u8 0, .bool false, .int .u8 0, .int .u16 0, .slice none 0 0, .int .u32 0, .slice none 0 0, .int .u16 0, .int .u16 0, .slice none 0 0, .slice none 0 0, .slice none 0 0, .int .u32 0, .int .u32 0, .slice none 0 0, .int .u64 0, .slice none 0 0, .slice none 0 0, .slice none 0 0] ∧ MsgAt 42 (fun k => rb + 1 ≤ k ∧ k ≠ g ∧ k ≠ bx ∧ k ≠ it) w' bx p.1 ∧ RdS 103 (fun k => k < w.heap.size) w' g p.2 ∧ OwnAt lo w' bx p.1 ∧ Keep w w' ∧ lo ≤ w'.heap.size) l.size
      ⟨0, (zMsg kind, ⟨b, 0⟩), rfl, by omega, by simp -implicitDefEqProofs only [go_sem, seval], by simp -implicitDefEqProofs only [go_sem, seval], by simp -implicitDefEqProofs only [go_sem, seval], by simp -implicitDefEqProofs only [go_sem, seval], rfl, hI, hrz5, hM5, hR5, ⟨_, _, hb5.cell 15, OwnI.nil _ _ _ _, hb5.cell 23, OwnI.nil _ _ _ _⟩, kk5, Nat.le_of_eq hlo⟩ ?_
    rintro q f w6 ⟨i, p, rfl, hi, g4, g8, g9, g27, hfold, hI6, hrz6, hM6, hR6, hO6, kk6, hs56⟩
    have hbxlo : bx < lo := by have := hb5.lt; omega
    by_cases hlt : i < l.size
    · obtain ⟨y, hy⟩ : ∃ y, (nums l)[i]? = some y := ⟨_, List.getElem?_eq_getElem (by rw [nums_len]; exact hlt)⟩
      have hym := List.mem_of_getElem? hy
      have hyl := hlet y hym
      have hy128 : y < 128 := by rcases letters_cases hyl with h | h | h | h | h | h | h | h | h | h | h | h | h | h | h | h | h | h | h | h <;> omega
      have hdr : (nums l).drop i = y :: (nums l).drop (i + 1) := by
        rw [List.drop_eq_getElem_cons (by rw [nums_len]; exact hlt)]
        rw [List.getElem?_eq_getElem (by rw [nums_len]; exact hlt)] at hy
        cases hy; rfl
      rw [hdr] at hfold
      simp -implicitDefEqProofs only [go_sem, seval, g27]
      refine next_str hI6 hy hy128 ?_
      have fI : Fx (only it) w6 (setIt w6 it l (i + 1)) := Fx.setIt _ _ _ _ rfl
      have hI7 := hI6.set (i + 1)
      have hrz7 := fI.blk hrz6 (fun x => hI6.not_blk hrz6 x)
      have hM7 := hM6.fx fI (fun e => by have : bx = it := e; omega) (fun k hk _ e => hk.2.2.2 e)
      have hR7 := hR6.iter hI6 (by omega) fI
      have kk7 := kk6.new fI (fun k e hk => by have : k = it := e; omega)
      have hil := hI7.lt
      have hO7 := hO6.fx hM6 fI (fun e => by have : bx = it := e; omega) (fun k e => by have : k = it := e; omega)
      have hs7 := fI.size
      generalize setIt w6 it l (i + 1) = w7 at *
      simp -implicitDefEqProofs only [go_sem, seval, g4, g8, g9, g27]
      refine (rfield_own (lo := rb + 1) (letters_cases hyl) hM7 (fun k hk => ⟨hk.1, hk.2.1, hk.2.2.1⟩) (fun k hk => ⟨by omega, by omega, by omega, by omega⟩) (by omega) (by omega) (fun k hk => by omega) (by omega) (by omega) hR7).mono ?_
      rintro v w8 ⟨rfl, hM8, hR8, f8, ow8⟩
      have hO8 := hO7.field (f := 0) hyl f8 (by omega) hbxlo (by omega) ow8
      have hs8 := f8.size
      have hI8 := hI7.fx f8 (by rintro (e | e) <;> omega)
      have hrz8 := f8.blk hrz7 (by rintro (e | e) <;> omega)
      have kk8 := kk7.new f8 (fun k e hk => by rcases e with e | e <;> omega)
      simp -implicitDefEqProofs only [go_sem, seval, g4, g8, g9, g27]
      exact ⟨l.size - (i + 1), by omega, i + 1, rfieldP y p, rfl, by omega, by simp -implicitDefEqProofs only [go_sem, seval, g4], by simp -implicitDefEqProofs only [go_sem, seval, g8], by simp -implicitDefEqProofs only [go_sem, seval, g9], by simp -implicitDefEqProofs only [go_sem, seval, g27], hfold, hI8, hrz8, hM8, hR8, hO8, kk8, by omega⟩
    · simp -implicitDefEqProofs only [go_sem, seval, g27]
      refine next_end hI6 hlt ?_
      have hz : (nums l).drop i = [] := List.drop_of_length_le (by rw [nums_len]; omega)
      rw [hz] at hfold
      have hfold : p = getFold (nums l) (zMsg kind, ⟨b, 0⟩) := hfold
      rw [← hfold] at hgm
      simp -implicitDefEqProofs only [go_sem, seval, g4, g8, g9]
      refine (end_calls (by omega) hR6).mono ?_
      rintro v w7 ⟨rfl, hR7, f7⟩
      have hrz7 := f7.blk hrz6 (fun e => by have : rb = g := e; omega)
      have hM7 := hM6.fx f7 (fun e => by have : bx = g := e; omega) (fun k hk _ e => hk.2.1 e)
      have kk7 := kk6.new f7 (fun k e hk => by have : k = g := e; omega)
      have hO7 := hO6.fx hM6 f7 (fun e => by have : bx = g := e; omega) (fun k e => by have : k = g := e; omega)
      have S1 := stB (P := Try.prog) (o := 0) sz42 hrz7 (by decide)
      have L1 := ldP (P := Try.prog) sh42 hrz7 rfl
      by_cases hw : (rend p.2).why = 0
      · have z : ((rend p.2).why != 0) = false := by rw [hw]; rfl
        obtain ⟨cs, hbc, hr⟩ := hM7
        have hcl : cs.length = 28 := kMsg.len hr
        have hci := cells_in hbc 0 28
        rw [List.drop_zero, List.take_of_length_le (by omega)] at hci
        have hld := ldV_agg (P := Try.prog) (w := w7) sh42 hcl hci
        have S2 := S1 cs hcl (allOne_of (kMsg.one hr))
        have L2 := L1 cs hcl
        simp -implicitDefEqProofs only [go_sem, seval, z, g4, g8, hld, S2, L2]
        rw [hgm, if_pos hw]
        obtain ⟨h1, h2⟩ := fin kk7 hrz7 (kMsg.mono hr (fun k _ hk => hk.1))
        obtain ⟨vv, vb, c1, o1, c2, o2⟩ := hO7
        rw [hbc.cell] at c1 c2
        have fp : Fx (only rb) w7 (putW w7 rb 0 cs) := Fx.put _ _ _ _ rfl
        exact ⟨cs, rfl, h1, ⟨vv, vb, by simpa using c1, (o1.fx fp (fun k hk e => by have := (o1.lt hk).1; have : k = rb := e; omega)).lower (by omega), by simpa using c2, (o2.fx fp (fun k hk e => by have := (o2.lt hk).1; have : k = rb := e; omega)).lower (by omega)⟩, h2⟩
      · have z : ((rend p.2).why != 0) = true := by rw [bne_iff_ne]; exact hw
        simp -implicitDefEqProofs only [go_sem, seval, z, g4, g8, S1, L1]
        rw [hgm, if_neg hw]
        obtain ⟨h1, h2⟩ := fin kk7 hrz7 (zMsg_rep (k := 0) (by decide) (by decide))
        exact ⟨_, rfl, h1, ⟨_, _, rfl, OwnI.nil _ _ _ _, rfl, OwnI.nil _ _ _ _⟩, h2⟩
theorem get_msg_calls {w : World} {kind : Int} {A : Option Addr} {c : Nat} {b : List Int} (hk0 : 0 ≤ kind) (hk1 : kind ≤ 255) (hc : b.length ≤ c) (hm : c ≤ maxLen) (he : Elems (Kind.int .u8) (fun k => k < w.heap.size) w A b) :
    callK Try.prog 20 #[.int .u8 kind, .slice A b.length c] w fun v w' => ∃ cs, v = .tuple #[.agg (List.toArray cs), .int .i64 (getMsg kind b).2] ∧ kMsg.rep (fun k => w.heap.size ≤ k) w' (getMsg kind b).1 cs ∧ Keep w w' :=
  (get_own_calls hk0 hk1 hc hm he).mono fun v w' ⟨cs, h1, h2, _, h3⟩ => ⟨cs, h1, h2, h3⟩
end Go.Proofs.Ytnlibeaainbipaa.F
