/- The document's bounds of texts and changes: they answer. Conditions: the data is of its kind. -/
import Derived.Test.YtnlibeaainbipaaGsame
namespace Go.Proofs.Ytnlibeaainbipaa.F
open Go.RowKit Go.Proofs.Ytnlibeaainbipaa.M Go.Proofs.Ytnlibeaainbipaa.V
set_option linter.unusedSimpArgs false
set_option linter.unusedVariables false
set_option maxRecDepth 20000

theorem great_calls {U : Nat → Prop} {w : World} {A : Option Addr} {c : Nat} {xs : List ByteArray} (hl : xs.length ≤ 9223372036854775807) (hx : Elems Kind.str U w A xs) :
    callK Try.prog 13 #[.slice A xs.length c] w fun v w' => (∃ q, v = .bool q) ∧ w' = w := by
  refine callK_of Try.func13 c13 r13 (by exact Nat.le_of_ble_eq_true rfl) ?_
  rw [m13]
  simp -implicitDefEqProofs only [go_sem, seval]
  refine loop_intro (fun q f w' => ∃ (i : Nat) (n : Int), q = xs.length - i ∧ i ≤ xs.length ∧ f 0 = .slice A xs.length c ∧ f 3 = .int .i64 n ∧ f 4 = .int .i64 i ∧ w' = w) xs.length
    ⟨0, 0, rfl, by omega, by simp -implicitDefEqProofs only [go_sem, seval], by simp -implicitDefEqProofs only [go_sem, seval], by simp -implicitDefEqProofs only [go_sem, seval] <;> rfl, rfl⟩ ?_
  rintro q f w1 ⟨i, n, rfl, hi, g0, g3, g4, rfl⟩
  have fin : ∀ (K : Prop), ((20000 : Int) ≤ n → K) → (¬ (20000 : Int) ≤ n → (300 : Int) < (xs.length : Int) → K) → (¬ (20000 : Int) ≤ n → ¬ (300 : Int) < (xs.length : Int) → K) → K := by
    intro K h1 h2 h3
    by_cases z1 : (20000 : Int) ≤ n
    · exact h1 z1
    · by_cases z2 : (300 : Int) < (xs.length : Int)
      · exact h2 z1 z2
      · exact h3 z1 z2
  by_cases hlt : i < xs.length
  · have i0 : (0 : Int) ≤ (i : Int) := by omega
    have i1 : (i : Int) < (xs.length : Int) := by omega
    by_cases hn : n < 20000
    · have en : IntKind.i64.wrap ((i : Int) + 1) = ((i + 1 : Nat) : Int) := i64_nat (by omega) (by omega)
      obtain ⟨x, ex⟩ : ∃ x, xs[i]? = some x := ⟨_, List.getElem?_eq_getElem hlt⟩
      obtain ⟨ad, rfl, hcx⟩ := elem_str hx ex
      rw [Nat.mul_one] at hcx
      simp -implicitDefEqProofs only [go_sem, seval, g0, g3, g4, i0, i1, hn, hcx, en]
      exact ⟨xs.length - (i + 1), by omega, i + 1, _, rfl, by omega, by simp -implicitDefEqProofs only [go_sem, seval, g0], by simp -implicitDefEqProofs only [go_sem, seval] <;> rfl, by simp -implicitDefEqProofs only [go_sem, seval], rfl⟩
    · refine fin _ (fun z1 => ?_) (fun z1 z2 => ?_) (fun z1 z2 => ?_)
      · simp -implicitDefEqProofs only [go_sem, seval, g0, g3, g4, i1, hn, z1]
        exact ⟨⟨_, rfl⟩, trivial⟩
      · simp -implicitDefEqProofs only [go_sem, seval, g0, g3, g4, i1, hn, z1, z2]
        exact ⟨⟨_, rfl⟩, trivial⟩
      · simp -implicitDefEqProofs only [go_sem, seval, g0, g3, g4, i1, hn, z1, z2]
        exact ⟨⟨_, rfl⟩, trivial⟩
  · have i1 : ¬ (i : Int) < (xs.length : Int) := by omega
    refine fin _ (fun z1 => ?_) (fun z1 z2 => ?_) (fun z1 z2 => ?_)
    · simp -implicitDefEqProofs only [go_sem, seval, g0, g3, g4, i1, z1]
      exact ⟨⟨_, rfl⟩, trivial⟩
    · simp -implicitDefEqProofs only [go_sem, seval, g0, g3, g4, i1, z1, z2]
      exact ⟨⟨_, rfl⟩, trivial⟩
    · simp -implicitDefEqProofs only [go_sem, seval, g0, g3, g4, i1, z1, z2]
      exact ⟨⟨_, rfl⟩, trivial⟩
theorem greatChanges_calls {U : Nat → Prop} {w : World} {A : Option Addr} {c : Nat} {xs : List MChange} (hl : xs.length ≤ 9223372036854775807) (hx : Elems kChange U w A xs) :
    callK Try.prog 14 #[.slice A xs.length c] w fun v w' => (∃ q, v = .bool q) ∧ w' = w := by
  refine callK_of Try.func14 c14 r14 (by exact Nat.le_of_ble_eq_true rfl) ?_
  rw [m14]
  simp -implicitDefEqProofs only [go_sem, seval]
  refine loop_intro (fun q f w' => ∃ (i : Nat) (n : Int), q = xs.length - i ∧ i ≤ xs.length ∧ f 0 = .slice A xs.length c ∧ f 3 = .int .i64 n ∧ f 4 = .int .i64 i ∧ w' = w) xs.length
    ⟨0, 0, rfl, by omega, by simp -implicitDefEqProofs only [go_sem, seval], by simp -implicitDefEqProofs only [go_sem, seval], by simp -implicitDefEqProofs only [go_sem, seval] <;> rfl, rfl⟩ ?_
  rintro q f w1 ⟨i, n, rfl, hi, g0, g3, g4, rfl⟩
  by_cases hlt : i < xs.length
  · have i0 : (0 : Int) ≤ (i : Int) := by omega
    have i1 : (i : Int) < (xs.length : Int) := by omega
    by_cases hn : n < 50000
    · have en : IntKind.i64.wrap ((i : Int) + 1) = ((i + 1 : Nat) : Int) := i64_nat (by omega) (by omega)
      obtain ⟨x, ex⟩ : ∃ x, xs[i]? = some x := ⟨_, List.getElem?_eq_getElem hlt⟩
      obtain ⟨ad, rfl, _, cs, hrx, hcx⟩ := hx i x ex
      obtain ⟨cs, rfl, hix⟩ := kChange_cases hrx
      obtain ⟨A1, c1, B1, d1, rfl, hi1, hl1, hc1, he1, hl2, hc2, he2⟩ := kItem_cases hix
      have e4 : kChange.sz = 4 := rfl
      rw [e4] at hcx
      have y2 := hcx 2 (.slice A1 x.item.vec.length c1) rfl
      have y3 := hcx 3 (.slice B1 x.item.tags.length d1) rfl
      simp only [go_sem] at y2 y3
      simp -implicitDefEqProofs only [go_sem, seval, g0, g3, g4, i0, i1, hn, y2, y3, Nat.add_assoc]
      refine (great_calls (by simp only [maxLen] at hc2; omega) he2).mono ?_
      rintro v w2 ⟨⟨q, rfl⟩, rfl⟩
      cases q with
      | true =>
        simp -implicitDefEqProofs only [go_sem, seval, g0, g4]
        exact ⟨⟨_, rfl⟩, trivial⟩
      | false =>
        simp -implicitDefEqProofs only [go_sem, seval, g0, g4, en]
        exact ⟨xs.length - (i + 1), by omega, i + 1, _, rfl, by omega, by simp -implicitDefEqProofs only [go_sem, seval, g0], by simp -implicitDefEqProofs only [go_sem, seval] <;> rfl, by simp -implicitDefEqProofs only [go_sem, seval], rfl⟩
    · simp -implicitDefEqProofs only [go_sem, seval, g0, g3, g4, i1, hn]
      exact ⟨⟨_, rfl⟩, trivial⟩
  · have i1 : ¬ (i : Int) < (xs.length : Int) := by omega
    simp -implicitDefEqProofs only [go_sem, seval, g0, g3, g4, i1]
    exact ⟨⟨_, rfl⟩, trivial⟩
end Go.Proofs.Ytnlibeaainbipaa.F
