/- A message written. Conditions: it is data of its kind. -/
import Derived.Test.YtnlibeaainbipaaGcells
namespace Go.Proofs.Ytnlibeaainbipaa.V
open Go.RowKit
def letters : List Int := [114, 99, 116, 101, 110, 78, 67, 76, 105, 118, 107, 119, 102, 117, 112, 98, 86, 83, 73, 72]
def formOk (l : ByteArray) : Bool := decide (l.size ≤ 7) && (nums l).all (fun x => letters.contains x)
theorem form_ok {k : Int} {l : ByteArray} (h : form k = some l) : l.size ≤ 7 ∧ ∀ x ∈ nums l, x ∈ letters := by
  have : formOk ((form k).getD ⟨#[]⟩) = true := by
    rcases kinds_cases k with h' | h'
    · rcases h' with rfl|rfl|rfl|rfl|rfl|rfl|rfl|rfl|rfl|rfl|rfl|rfl|rfl|rfl|rfl|rfl|rfl|rfl|rfl|rfl|rfl|rfl|rfl|rfl <;> decide +kernel
    · have hf : form k = none := by simp only [form, h', if_false]
      rw [hf] at h; cases h
  rw [h, Option.getD_some] at this
  unfold formOk at this
  rw [Bool.and_eq_true, decide_eq_true_eq, List.all_eq_true] at this
  exact ⟨this.1, fun x hx => by simpa using this.2 x hx⟩
theorem letters_cases {f : Int} (h : f ∈ letters) : f = 114 ∨ f = 99 ∨ f = 116 ∨ f = 101 ∨ f = 110 ∨ f = 78 ∨ f = 67 ∨ f = 76 ∨ f = 105 ∨ f = 118 ∨ f = 107 ∨ f = 119 ∨ f = 102 ∨ f = 117 ∨ f = 112 ∨ f = 98 ∨ f = 86 ∨ f = 83 ∨ f = 73 ∨ f = 72 := by simpa [letters] using h
/-- All the letters' fields written and taken out. -/
def putFold (l : List Int) (p : Msg × WS) : Msg × WS := l.foldl (fun p f => wfieldP f p) p
def putMsg (x : Msg) : Msg × WS := match form x.kind with
  | none => (x, ⟨[], true⟩)
  | some l => putFold (nums l) (x, ⟨[], false⟩)
/-- Can it be written? -/
def PutOk (x : Msg) : Prop := (putMsg x).2.bad = false ∧ (putMsg x).1 = zMsg (putMsg x).1.kind
end Go.Proofs.Ytnlibeaainbipaa.V
namespace Go.Proofs.Ytnlibeaainbipaa.M
open Go.RowKit Go.Proofs.Ytnlibeaainbipaa.V
theorem StrIter.not_blk {w : World} {it g t pos : Nat} {s : ByteArray} {cs : Array Value} (h : StrIter w it s pos) (hb : Blk w g t cs) : g ≠ it := by
  rintro rfl
  have := Option.some.inj (Eq.trans (Eq.symm hb) h)
  cases this
theorem WrS.iter {t e : TypeId} {w w' : World} {g lo it pos : Nat} {s : WS} {z : ByteArray} (h : WrS t e w g lo s) (hi : StrIter w it z pos) (f : Fx (only it) w w') : WrS t e w' g lo s := by
  obtain ⟨h1, h2, v, hb, ho⟩ := h
  refine ⟨h1, h2, v, f.blk hb (fun x => hi.not_blk hb x), ho.fx f fun k hk x => ?_⟩
  have hx : k = it := x
  rcases ho.2 with ⟨hv', _⟩ | ⟨g', cap, cur, hv', _, hg, _⟩
  · rw [hv'] at hk; cases hk
  · rw [hv'] at hk
    have : k = g' := by simpa [Value.ownBlock] using hk
    subst this
    exact hi.not_blk (cs := cur) hg hx
theorem StrIter.wm {e : TypeId} {w : World} {g lo it pos : Nat} {z : ByteArray} (hi : StrIter w it z pos) (hg : it ≠ g) : ¬ Wm e w g lo it := by
  rintro (x | ⟨_, cs, x⟩)
  · exact hg x
  · exact hi.not_blk x rfl
end Go.Proofs.Ytnlibeaainbipaa.M
namespace Go.Proofs.Ytnlibeaainbipaa.F
open Go.RowKit Go.Proofs.Ytnlibeaainbipaa.M Go.Proofs.Ytnlibeaainbipaa.V
set_option linter.unusedSimpArgs false
set_option linter.unusedVariables false
set_option maxRecDepth 20000
/-- What a message's writing answers. -/
def PutV (w w' : World) (x : Msg) (v : Value) : Prop := (¬ PutOk x ∧ v = .tuple #[.slice none 0 0, .bool false]) ∨ (PutOk x ∧ ∃ v1, v = .tuple #[v1, .bool true] ∧ OwnI 5 .u8 w.heap.size w' v1 (putMsg x).2.b)
theorem put_msg_calls {w : World} {x : Msg} {cs : List Value} (hx : kMsg.rep (fun k => k < w.heap.size) w x cs) : callK Try.prog 15 #[.agg cs.toArray] w fun v w' => PutV w w' x v ∧ Keep w w' := by
  refine callK_of Try.func15 c15 r15 (by exact Nat.le_of_ble_eq_true rfl) ?_
  rw [m15]
  simp -implicitDefEqProofs only [go_sem, seval]
  have hb : Blk _ _ _ _ := Blk.new w 42 cs.toArray
  have kA : Keep w (w.alloc (.cells cs.toArray 42)) := Fx.alloc _ w _
  have hM1 : MsgAt 42 (fun k => k < w.heap.size) _ w.heap.size x := ⟨cs, hb, kMsg.keep hx kA⟩
  have s1 := size_alloc w (.cells cs.toArray 42)
  generalize w.alloc (.cells cs.toArray 42) = w1 at *
  clear hb
  obtain ⟨bx, hbx⟩ : ∃ bx, bx = w.heap.size := ⟨_, rfl⟩
  rw [← hbx] at hM1 s1 ⊢
  have h0 : cs[0]? = some (.int .u8 x.kind) := one_at (lnKind.get hx).1
  simp -implicitDefEqProofs only [go_sem, seval, h0]
  refine (fields_calls x.kind w1).mono ?_
  rintro v w2 ⟨rfl, rfl⟩
  unfold fieldsV
  have hpm : putMsg x = match form x.kind with
    | none => (x, ⟨[], true⟩)
    | some l => putFold (nums l) (x, ⟨[], false⟩) := rfl
  cases hf : form x.kind with
  | none =>
    rw [hf] at hpm
    simp -implicitDefEqProofs only [go_sem, seval, Option.getD_none, Option.isSome_none]
    exact ⟨.inl ⟨fun h => (by have := h.1; rw [hpm] at this; cases this), rfl⟩, kA⟩
  | some l =>
    rw [hf] at hpm
    simp only at hpm
    obtain ⟨hl7, hlet⟩ := form_ok hf
    simp -implicitDefEqProofs only [go_sem, seval, Option.getD_some, Option.isSome_some]
    refine bsl_none et26 ?_
    have o1 : OwnI 5 .u8 (bx + 1) _ _ _ := OwnI.new w2 5 .u8 [] (by omega) (by simp)
    have k1 : Keep w2 (w2.alloc (.cells #[] 5)) := Fx.alloc _ _ _
    have s2 := size_alloc w2 (.cells #[] 5)
    simp only [List.map_nil, List.length_nil] at o1
    generalize w2.alloc (.cells #[] 5) = w3 at *
    simp -implicitDefEqProofs only [go_sem, seval]
    have hbw := Blk.new w3 96 #[.slice (some (At w2.heap.size 0)) 0 0, .bool false]
    have kB : Keep w3 (w3.alloc (.cells #[.slice (some (At w2.heap.size 0)) 0 0, .bool false] 96)) := Fx.alloc _ _ _
    have o2 := o1.fx kB (fun _ _ x => x)
    have s3 := size_alloc w3 (.cells #[.slice (some (At w2.heap.size 0)) 0 0, .bool false] 96)
    generalize w3.alloc (.cells #[.slice (some (At w2.heap.size 0)) 0 0, .bool false] 96) = w4 at *
    have k4 := k1.tr kB
    generalize hg : w3.heap.size = g at *
    have hW4 : WrS 96 5 w4 g (bx + 1) ⟨[], false⟩ := ⟨by omega, by decide, _, hbw, o2⟩
    have hM4 := hM1.keep k4
    have kk4 := kA.tr k4
    refine runK_of (rangeS_run Try.underlying9 l w4) ?_
    have hI := StrIter.new w4 l
    have kC : Keep w4 (w4.alloc (.stringIter l 0)) := Fx.alloc _ _ _
    have hW5 := hW4.keep kC
    have hM5 := hM4.keep kC
    have kk5 := kk4.tr kC
    have s5 := size_alloc w4 (.stringIter l 0)
    generalize hit : w4.heap.size = it at *
    generalize w4.alloc (.stringIter l 0) = w5 at *
    simp -implicitDefEqProofs only [go_sem, seval]
    refine loop_intro (fun q f w' => ∃ (i : Nat) (p : Msg × WS), q = l.size - i ∧ i ≤ l.size ∧ f 1 = .pointer (some (At bx 0)) ∧ f 6 = .pointer (some (At g 0)) ∧ f 21 = .pointer (some (At it 0)) ∧ putFold ((nums l).drop i) p = putMsg x ∧ p.2.b.length ≤ i * 67441674 ∧
        StrIter w' it l i ∧ MsgAt 42 (fun k => k < bx) w' bx p.1 ∧ WrS 96 5 w' g (bx + 1) p.2 ∧ Keep w w') l.size
      ⟨0, (x, ⟨[], false⟩), rfl, by omega, by simp -implicitDefEqProofs only [go_sem, seval], by simp -implicitDefEqProofs only [go_sem, seval], by simp -implicitDefEqProofs only [go_sem, seval], by rw [hpm]; rfl, by show ([] : List Int).length ≤ _; simp, hI, hM5, hW5, kk5⟩ ?_
    rintro q f w6 ⟨i, p, rfl, hi, g1, g6, g21, hfold, hlen, hI6, hM6, hW6, kk6⟩
    by_cases hlt : i < l.size
    · obtain ⟨y, hy⟩ : ∃ y, (nums l)[i]? = some y := ⟨_, List.getElem?_eq_getElem (by rw [nums_len]; exact hlt)⟩
      have hym := List.mem_of_getElem? hy
      have hyl := hlet y hym
      have hy128 : y < 128 := by rcases letters_cases hyl with h | h | h | h | h | h | h | h | h | h | h | h | h | h | h | h | h | h | h | h <;> omega
      have hdr : (nums l).drop i = y :: (nums l).drop (i + 1) := by
        rw [List.drop_eq_getElem_cons (by rw [nums_len]; exact hlt)]
        rw [List.getElem?_eq_getElem (by rw [nums_len]; exact hlt)] at hy
        cases hy; rfl
      rw [hdr] at hfold
      simp -implicitDefEqProofs only [go_sem, seval, g21]
      refine next_str hI6 hy hy128 ?_
      have fI : Fx (only it) w6 (setIt w6 it l (i + 1)) := Fx.setIt _ _ _ _ rfl
      have hI7 := hI6.set (i + 1)
      have hM7 := hM6.fx fI (fun e => by have : bx = it := e; omega) (fun k hk _ e => by have : k = it := e; omega)
      have hW7 := hW6.iter hI6 fI
      have kk7 := kk6.new fI (fun k e hk => by have : k = it := e; omega)
      generalize setIt w6 it l (i + 1) = w7 at *
      simp -implicitDefEqProofs only [go_sem, seval, g1, g6, g21]
      have hgl := hW7.lt
      refine (wfield_calls (letters_cases hyl) hM7 (fun k hk => by omega) (by omega) hW7 (by omega)).mono ?_
      rintro v w8 ⟨rfl, hM8, hW8, hl8, f8⟩
      have hI8 := hI7.fx f8 (by
        rintro (e | e)
        · omega
        · exact hI7.wm (by omega) e)
      have kk8 := kk7.new f8 (fun k e hk => by
        rcases e with e | e
        · omega
        · exact (Wm.low hgl.1 (by omega) e).elim)
      simp -implicitDefEqProofs only [go_sem, seval, g1, g6, g21]
      exact ⟨l.size - (i + 1), by omega, i + 1, wfieldP y p, rfl, by omega, by simp -implicitDefEqProofs only [go_sem, seval, g1], by simp -implicitDefEqProofs only [go_sem, seval, g6], by simp -implicitDefEqProofs only [go_sem, seval, g21], hfold, by have : (wfieldP y p).2.b.length ≤ p.2.b.length + 67441674 := hl8; omega, hI8, hM8, hW8, kk8⟩
    · simp -implicitDefEqProofs only [go_sem, seval, g21]
      refine next_end hI6 hlt ?_
      have hz : (nums l).drop i = [] := List.drop_of_length_le (by rw [nums_len]; omega)
      rw [hz] at hfold
      have hfold : p = putMsg x := hfold
      unfold PutV PutOk
      rw [← hfold]
      obtain ⟨cs6, hb6, hr6⟩ := hM6
      have hcl : cs6.length = 28 := kMsg.len hr6
      have hci := cells_in hb6 0 28
      rw [List.drop_zero, List.take_of_length_le (by omega)] at hci
      have hld := ldV_agg (P := Try.prog) (w := w6) sh42 hcl hci
      have hgl := hW6.lt
      obtain ⟨q1, q2, v, hbv, hov⟩ := id hW6
      have hne := hov.ne hbv (by decide)
      have st : ∀ (wz : World) (q : Bool), Keep w6 wz → WrS 96 5 (wz.setCell (At g 1) (.bool q)) g (bx + 1) ⟨p.2.b, q⟩ ∧ Keep w (wz.setCell (At g 1) (.bool q)) := fun wz q kz =>
        ⟨⟨q1, q2, v, (kz.blk hbv (fun x => x)).set 1 (.bool q), (hov.fx kz (fun _ _ x => x)).fx (Fx.set (m := only g) _ _ _ rfl) fun k hk e => hne (by rw [← hk, e])⟩, (kk6.tr kz).new (Fx.set (m := only g) _ _ _ rfl) (fun k e hk => by have : k = g := e; omega)⟩
      cases hbad : p.2.bad with
      | true =>
        rw [hbad] at hbv
        simp -implicitDefEqProofs only [go_sem, seval, g1, g6, hbv.cell, hbv.frozen]
        obtain ⟨h7, k7⟩ := st w6 true (Fx.refl _ _)
        refine (done_calls h7).mono ?_
        rintro v w8 ⟨rfl, d1, _⟩
        rw [d1 rfl]
        simp -implicitDefEqProofs only [go_sem, seval]
        exact ⟨.inl ⟨fun h => (by cases h.1), (by first | rfl | trivial)⟩, k7⟩
      | false =>
        rw [hbad] at hbv
        simp -implicitDefEqProofs only [go_sem, seval, g1, g6, hbv.cell, hbv.frozen, hld]
        refine (empty_calls hr6).mono ?_
        rintro v w8 ⟨⟨q, rfl, hq⟩, k8⟩
        have hbv8 := k8.blk hbv (fun x => x)
        cases q with
        | true =>
          simp -implicitDefEqProofs only [go_sem, seval, g1, g6, hbv8.cell, hbv8.frozen]
          obtain ⟨h9, k9⟩ := st w8 false k8
          refine (done_calls h9).mono ?_
          rintro v w10 ⟨rfl, _, d2⟩
          obtain ⟨v1, rfl, ho⟩ := d2 rfl
          simp -implicitDefEqProofs only [go_sem, seval]
          exact ⟨.inr ⟨⟨(by first | rfl | trivial), hq.1 rfl⟩, v1, (by first | rfl | trivial), ho.lower (by omega)⟩, k9⟩
        | false =>
          simp -implicitDefEqProofs only [go_sem, seval, g1, g6, hbv8.cell, hbv8.frozen]
          obtain ⟨h9, k9⟩ := st w8 true k8
          refine (done_calls h9).mono ?_
          rintro v w10 ⟨rfl, d1, _⟩
          rw [d1 rfl]
          simp -implicitDefEqProofs only [go_sem, seval]
          exact ⟨.inl ⟨fun h => (by cases hq.2 h.2), (by first | rfl | trivial)⟩, k9⟩
end Go.Proofs.Ytnlibeaainbipaa.F
