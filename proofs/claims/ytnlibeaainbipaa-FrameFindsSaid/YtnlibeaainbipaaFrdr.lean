/- A new reader of frames; bytes that it is fed with; what waits. Conditions: its bytes stand in memory of its own. -/
import Derived.Test.YtnlibeaainbipaaFnext
namespace Go.Proofs.Ytnlibeaainbipaa.F
open Go.RowKit Go.Proofs.Ytnlibeaainbipaa.M Go.Proofs.Ytnlibeaainbipaa.V
set_option linter.unusedSimpArgs false
set_option linter.unusedVariables false
set_option maxRecDepth 20000
theorem rnew_calls (w : World) : callK Try.prog 5 #[] w fun v w' => v = .pointer (some (At (w.heap.size + 1) 0)) ∧ (∀ lo, Rdr w' (w.heap.size + 1) w.heap.size lo [] 0) ∧ Keep w w' ∧ w'.heap.size = w.heap.size + 2 := by
  refine callK_of Try.func5 c5 r5 (by exact Nat.le_of_ble_eq_true rfl) ?_
  rw [m5]
  simp -implicitDefEqProofs only [go_sem, seval]
  refine (new_calls w).mono ?_
  rintro v w1 ⟨rfl, hf, k1, s1⟩
  obtain ⟨g, hg⟩ : ∃ g, g = w.heap.size := ⟨_, rfl⟩
  rw [← hg] at hf s1 ⊢
  simp -implicitDefEqProofs only [go_sem, seval]
  have hb : Blk _ _ _ _ := Blk.new w1 55 #[.slice none 0 0, .int .i64 0, .pointer (some (At g 0))]
  have kA : Keep w1 (w1.alloc (.cells #[.slice none 0 0, .int .i64 0, .pointer (some (At g 0))] 55)) := Fx.alloc _ w1 _
  have sA := size_alloc w1 (.cells #[.slice none 0 0, .int .i64 0, .pointer (some (At g 0))] 55)
  rw [s1] at hb sA ⊢
  refine ⟨rfl, fun lo => ⟨_, hb, OwnI.nil _ _ _ _, fun x hx => by simp at hx, .inl (kA.blk hf (fun h => h)), by omega, by omega⟩, k1.tr kA, by omega⟩
/-- The block that a reader's bytes stand in. -/
def OwnB (w : World) (rb k : Nat) : Prop := ∃ v y s, Blk w rb 55 #[v, y, s] ∧ v.ownBlock = some k
theorem ownB_of {w w' : World} {rb g lo k : Nat} {b : List Int} {why : Int} {m : Nat → Prop} (h : Rdr w rb g lo b why) (f : Fx m w w') (hm : ¬ m rb) (hk : OwnB w' rb k) : lo ≤ k ∧ k < w.heap.size := by
  obtain ⟨v, hb, ho, _⟩ := h
  obtain ⟨v', y, s, hb', hv⟩ := hk
  have := f.blk hb hm
  have e := Option.some.inj (Eq.trans (Eq.symm this) hb')
  have e2 : v = v' := by injection e with e1; injection e1 with e1; injection e1
  subst e2
  exact ho.lt hv.symm
theorem feed_calls {w : World} {rb g lo : Nat} {b d : List Int} {why : Int} {A : Option Addr} {c : Nat} (hR : Rdr w rb g lo b why) (hlo : lo ≤ w.heap.size) (hd : RdI w .u8 A d) (hdb : Bs d) (hl : b.length + d.length ≤ 1000000000) :
    callK Try.prog 8 #[.pointer (some (At rb 0)), .slice A d.length c] w fun v w' => v = .tuple #[] ∧ Rdr w' rb g lo (if why = 0 then b ++ d else b) why ∧ Fx (fun k => k = rb ∨ OwnB w rb k) w w' := by
  refine callK_of Try.func8 c8 r8 (by exact Nat.le_of_ble_eq_true rfl) ?_
  rw [m8]
  obtain ⟨vb, hbl, ho, hbs, hS, hrg, hgl⟩ := id hR
  have hrl := hbl.lt
  by_cases hw : why = 0
  · subst hw
    have z : ((0 : Int) == 0) = true := rfl
    rw [if_pos rfl]
    simp -implicitDefEqProofs only [go_sem, seval, hbl.cell, z]
    refine append_own ie8 (by decide) ho hd (by omega) hlo ?_
    intro v' w1 o1 f1 hat
    have hor : v'.ownBlock ≠ some rb := fun e => by
      rcases hat with h | h
      · exact ho.ne hbl (by decide) (h ▸ e)
      · rw [h] at e; injection e with e; omega
    have hb1 := f1.blk hbl (fun e => ho.ne hbl (by decide) e.symm)
    have hS1 : Sum w1 g := hS.fx f1 (fun e => by
      have hSb : ∃ cs, Blk w g 89 cs := by rcases hS with h | h <;> exact ⟨_, h⟩
      obtain ⟨csS, hSb⟩ := hSb
      exact ho.ne hSb (by decide) e.symm)
    obtain ⟨A1, c1, e1, hc1, hr1⟩ := o1.slice
    have ov : v'.oneCell' = true := by rw [e1]; rfl
    simp -implicitDefEqProofs only [go_sem, seval, hb1.cell, hb1.frozen, ov]
    have hb2 := hb1.set 0 v'
    simp only [List.setIfInBounds_toArray, List.set_cons_zero] at hb2
    have f2 : Fx (only rb) w1 (w1.setCell (At rb 0) v') := Fx.set _ _ _ rfl
    have F1 : Fx (fun k => k = rb ∨ OwnB w rb k) w w1 := f1.weaken fun k _ e => .inr ⟨_, _, _, hbl, e.symm⟩
    exact ⟨by first | rfl | trivial, ⟨v', hb2, o1.fx f2 (fun k hk e => hor (by rw [← hk, show k = rb from e])), hbs.append hdb, hS1.fx f2 (fun e => hrg e.symm), hrg, by have := f1.size; have := f2.size; omega⟩, F1.tr (f2.weaken fun k _ e => .inl e)⟩
  · have z : (why == 0) = false := by rw [beq_eq_false_iff_ne]; exact hw
    rw [if_neg hw]
    simp -implicitDefEqProofs only [go_sem, seval, hbl.cell, z]
    exact ⟨by first | rfl | trivial, hR, Fx.refl _ _⟩
theorem waits_calls {w : World} {rb g lo : Nat} {b : List Int} {why : Int} (hR : Rdr w rb g lo b why) : callK Try.prog 11 #[.pointer (some (At rb 0))] w fun v w' => v = .int .i64 b.length ∧ w' = w := by
  refine callK_of Try.func11 c11 r11 (by exact Nat.le_of_ble_eq_true rfl) ?_
  rw [m11]
  obtain ⟨vb, hbl, ho, hbs, hS, hrg, hgl⟩ := id hR
  obtain ⟨A, c, rfl, _, _⟩ := ho.slice
  simp -implicitDefEqProofs only [go_sem, seval, hbl.cell]
  exact ⟨by first | rfl | trivial, by first | rfl | trivial⟩
end Go.Proofs.Ytnlibeaainbipaa.F
