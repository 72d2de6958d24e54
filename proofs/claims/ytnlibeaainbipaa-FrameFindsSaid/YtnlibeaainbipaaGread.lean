/- The reader of messages, step by step: what it takes is what the plain reading takes. Conditions: its box holds what is left; what is left lies in blocks that nobody writes. -/
import Derived.Test.YtnlibeaainbipaaZ4
import Derived.Test.YtnlibeaainbipaaZ3
namespace Go.Proofs.Ytnlibeaainbipaa.M
open Go.RowKit Go.Proofs.Ytnlibeaainbipaa.V
theorem Elems.rd {kd : IntKind} {U : Nat → Prop} {w : World} {A : Option Addr} {xs : List Int} (h : Elems (Kind.int kd) U w A xs) : RdI w kd A xs := by
  intro j x hx
  obtain ⟨ad, rfl, _, vs, hr, hc⟩ := h j x hx
  obtain ⟨rfl, _⟩ := hr
  have := hc 0 _ rfl
  rw [add_add] at this
  exact ⟨ad, rfl, by simpa [Kind.int] using this⟩
theorem wf_u8' {x : Int} (h : (Lit.int .u8 x).wf = true) : 0 ≤ x ∧ x ≤ 255 := by
  simp [Lit.wf, IntKind.min, IntKind.max, IntKind.signed, IntKind.bits] at h
  omega
theorem u8_wf {x : Int} (h0 : 0 ≤ x) (h1 : x ≤ 255) : (Lit.int .u8 x).wf = true := by
  simp [Lit.wf, IntKind.min, IntKind.max, IntKind.signed, IntKind.bits]
  omega
theorem Elems.bs {U : Nat → Prop} {w : World} {A : Option Addr} {xs : List Int} (h : Elems (Kind.int .u8) U w A xs) : Bs xs := by
  intro x hx
  obtain ⟨j, hj, e⟩ := List.mem_iff_getElem.1 hx
  obtain ⟨ad, _, _, vs, hr, _⟩ := h j x (by rw [List.getElem?_eq_getElem hj, e])
  exact wf_u8' hr.2
theorem Elems.take {α : Type} {K : Kind α} {U : Nat → Prop} {w : World} {A : Option Addr} {xs : List α} (h : Elems K U w A xs) (n : Nat) : Elems K U w A (xs.take n) := by
  intro j x hx
  rw [List.getElem?_take] at hx
  split at hx
  · exact h j x hx
  · cases hx
/-- What is behind the first l. -/
theorem Elems.cut {U : Nat → Prop} {w : World} {A : Option Addr} {xs : List Int} {kd : IntKind} (h : Elems (Kind.int kd) U w A xs) (l c : Nat) (hc : xs.length ≤ c) : Elems (Kind.int kd) U w (cutA A l c 1) (xs.drop l) := by
  intro j x hx
  rw [List.getElem?_drop] at hx
  have hlt := (List.getElem?_eq_some_iff.1 hx).1
  obtain ⟨ad, rfl, hU, vs, hr, hcv⟩ := h _ x hx
  refine ⟨ad.add l, ?_, by rw [add_block]; exact hU, vs, hr, ?_⟩
  · unfold cutA
    rw [if_neg (by omega), Nat.mul_one]; rfl
  · rw [add_add]
    simpa [Kind.int] using hcv
theorem elems_of {U : Nat → Prop} {w : World} {A : Option Addr} {kd : IntKind} {xs : List Int} (h : RdI w kd A xs) (hU : ∀ ad, A = some ad → xs ≠ [] → U ad.block) (hw : ∀ x ∈ xs, (Lit.int kd x).wf = true) : Elems (Kind.int kd) U w A xs := by
  intro j x hx
  obtain ⟨ad, hA, hc⟩ := h j x hx
  have hne : xs ≠ [] := by rintro rfl; simp at hx
  refine ⟨ad, hA, hU ad hA hne, [.int kd x], ⟨rfl, hw x (List.mem_of_getElem? hx)⟩, fun i v hv => ?_⟩
  have : i = 0 := by have := (List.getElem?_eq_some_iff.1 hv).1; simp at this; omega
  subst this
  cases hv
  rw [add_add]; simpa [Kind.int] using hc

/-- A reader's box: what is left, and the first error. -/
def RdS (t : TypeId) (U : Nat → Prop) (w : World) (g : Nat) (s : RS) : Prop :=
  ∃ A c, Blk w g t #[.slice A s.b.length c, .int .i64 s.why] ∧ s.b.length ≤ c ∧ c ≤ maxLen ∧ Elems (Kind.int .u8) U w A s.b
theorem RdS.fx {t : TypeId} {U m : Nat → Prop} {w w' : World} {g : Nat} {s : RS} (h : RdS t U w g s) (hf : Fx m w w') (hg : ¬ m g) (hU : ∀ k, U k → ¬ m k) : RdS t U w' g s := by
  obtain ⟨A, c, hb, h1, h2, he⟩ := h
  exact ⟨A, c, hf.blk hb hg, h1, h2, he.fx hf hU⟩
theorem RdS.keep {t : TypeId} {U : Nat → Prop} {w w' : World} {g : Nat} {s : RS} (h : RdS t U w g s) (hf : Keep w w') : RdS t U w' g s := h.fx hf (fun x => x) (fun _ _ x => x)
theorem RdS.lt {t : TypeId} {U : Nat → Prop} {w : World} {g : Nat} {s : RS} (h : RdS t U w g s) : g < w.heap.size := by
  obtain ⟨A, c, hb, _⟩ := h
  exact hb.lt
theorem RdS.bs {t : TypeId} {U : Nat → Prop} {w : World} {g : Nat} {s : RS} (h : RdS t U w g s) : Bs s.b := by
  obtain ⟨A, c, _, _, _, he⟩ := h
  exact he.bs
end Go.Proofs.Ytnlibeaainbipaa.M
namespace Go.Proofs.Ytnlibeaainbipaa.F
open Go.RowKit Go.Proofs.Ytnlibeaainbipaa.M Go.Proofs.Ytnlibeaainbipaa.V
set_option linter.unusedSimpArgs false
set_option linter.unusedVariables false
set_option maxRecDepth 20000

theorem vget_used {b : List Int} (hb : Bs b) (h : (vget b).2.2 = 0) : 0 ≤ (vget b).2.1 ∧ (vget b).2.1 ≤ b.length := by
  obtain ⟨n, hn, rest, rfl⟩ := vget_ok hb h
  rw [vget_put hn]
  simp only [List.length_append]
  omega

theorem fail_calls {w : World} {g : Nat} {x : Value} {why e : Int} (h : Blk w g 103 #[x, .int .i64 why]) : callK Try.prog 60 #[.pointer (some (At g 0)), .int .i64 e] w fun v w' => v = .tuple #[] ∧ Blk w' g 103 #[x, .int .i64 (if why = 0 then e else why)] ∧ Fx (only g) w w' := by
  refine callK_of Try.func60 c60 r60 (by exact Nat.le_of_ble_eq_true rfl) ?_
  rw [m60]
  by_cases hw : why = 0
  · have z : (why == 0) = true := by rw [beq_iff_eq]; exact hw
    simp -implicitDefEqProofs only [go_sem, seval, h.cell, h.frozen, z]
    exact ⟨trivial, by rw [if_pos hw]; exact h.set 1 _, Fx.set _ _ _ rfl⟩
  · have z : (why == 0) = false := by rw [beq_eq_false_iff_ne]; exact hw
    simp -implicitDefEqProofs only [go_sem, seval, h.cell, h.frozen, z]
    exact ⟨trivial, by rw [if_neg hw]; exact h, Fx.refl _ _⟩

theorem num_calls {U : Nat → Prop} {w : World} {g : Nat} {s : RS} (most : Int) (hU : ¬ U g) (h : RdS 103 U w g s) :
    callK Try.prog 73 #[.pointer (some (At g 0)), .int .u64 most] w fun v w' => v = .int .u64 (rnum most s).1 ∧ RdS 103 U w' g (rnum most s).2 ∧ Fx (only g) w w' := by
  refine callK_of Try.func73 c73 r73 (by exact Nat.le_of_ble_eq_true rfl) ?_
  rw [m73]
  obtain ⟨A, c, hb, hlc, hcm, he⟩ := h
  have hcm' : c ≤ 9223372036854775807 := by simp only [maxLen] at hcm; omega
  have off : ∀ k, U k → ¬ only g k := fun k hk e => hU (e ▸ hk)
  by_cases hw : s.why = 0
  · have z : (s.why != 0) = false := by rw [hw]; rfl
    simp -implicitDefEqProofs only [go_sem, seval, hb.cell, z]
    refine (get_calls he.rd he.bs (by omega)).mono ?_
    rintro v w' ⟨rfl, rfl⟩
    obtain ⟨n, hn, en⟩ := vget_range he.bs
    by_cases h0 : (vget s.b).2.2 = 0
    · have z1 : ((vget s.b).2.2 == 0) = true := by rw [beq_iff_eq]; exact h0
      obtain ⟨u0, u1⟩ := vget_used he.bs h0
      by_cases hm : most < (vget s.b).1
      · have hr : rnum most s = (0, ⟨s.b, 62⟩) := by simp [rnum, hw, h0, hm]
        have z2 : ((62 : Int) != 0) = true := rfl
        simp -implicitDefEqProofs only [go_sem, seval, getV, z1, hm, z2]
        refine (fail_calls hb).mono ?_
        rintro v w2 ⟨rfl, hb2, hf⟩
        rw [if_pos hw] at hb2
        simp -implicitDefEqProofs only [go_sem, seval]
        rw [hr]
        exact ⟨rfl, ⟨A, c, hb2, hlc, hcm, he.fx hf off⟩, hf⟩
      · have hr : rnum most s = ((vget s.b).1, ⟨s.b.drop (vget s.b).2.1.toNat, 0⟩) := by simp [rnum, hw, h0, hm]
        have z2 : ((vget s.b).2.2 != 0) = false := by rw [h0]; rfl
        have u2 : (vget s.b).2.1 ≤ (s.b.length : Int) := u1
        have u3 : (s.b.length : Int) ≤ (c : Int) := by omega
        have u4 : s.b.length ≤ c := hlc
        simp -implicitDefEqProofs only [go_sem, seval, getV, z1, hm, z2, hb.cell, hb.frozen, u0, u2, u4]
        rw [hr]
        have hb2 := hb.set 0 (.slice (cutA A (vget s.b).2.1.toNat c 1) (s.b.length - (vget s.b).2.1.toNat) (c - (vget s.b).2.1.toNat))
        refine ⟨rfl, ⟨cutA A (vget s.b).2.1.toNat c 1, c - (vget s.b).2.1.toNat, ?_, by simp; omega, by omega, (he.cut _ c hlc).fx (Fx.set (m := only g) _ _ _ rfl) off⟩, Fx.set _ _ _ rfl⟩
        rw [hw] at hb2
        simpa using hb2
    · have hr : rnum most s = (0, ⟨s.b, (vget s.b).2.2⟩) := by simp [rnum, hw, h0]
      have z1 : ((vget s.b).2.2 == 0) = false := by rw [beq_eq_false_iff_ne]; exact h0
      have z2 : ((vget s.b).2.2 != 0) = true := by rw [bne_iff_ne]; exact h0
      simp -implicitDefEqProofs only [go_sem, seval, getV, z1, z2]
      refine (fail_calls hb).mono ?_
      rintro v w2 ⟨rfl, hb2, hf⟩
      rw [if_pos hw] at hb2
      simp -implicitDefEqProofs only [go_sem, seval]
      rw [hr]
      exact ⟨rfl, ⟨A, c, hb2, hlc, hcm, he.fx hf off⟩, hf⟩
  · have hr : rnum most s = (0, s) := by simp [rnum, hw]
    have z : (s.why != 0) = true := by rw [bne_iff_ne]; exact hw
    simp -implicitDefEqProofs only [go_sem, seval, hb.cell, z]
    rw [hr]
    exact ⟨rfl, ⟨A, c, hb, hlc, hcm, he⟩, Fx.refl _ _⟩
end Go.Proofs.Ytnlibeaainbipaa.F
