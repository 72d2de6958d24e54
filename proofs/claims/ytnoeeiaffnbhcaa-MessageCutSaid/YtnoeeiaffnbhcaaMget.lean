/- What varint.Get and GetInt read is the number that the bytes begin with. Conditions: the slice's places hold the bytes. -/
import Derived.Test.YtnoeeiaffnbhcaaMput
namespace Go.Proofs.Ytnoeeiaffnbhcaa.F
open Go.RowKit Go.Proofs.Ytnoeeiaffnbhcaa.M Go.Proofs.Ytnoeeiaffnbhcaa.V
set_option linter.unusedSimpArgs false
set_option linter.unusedVariables false
set_option maxRecDepth 20000

def getV (r : Int × Int × Int) : Value := .tuple #[.int .u64 r.1, .int .i64 r.2.1, .int .i64 r.2.2]
theorem i64_nat {n : Int} (h0 : 0 ≤ n) (h : n ≤ 9223372036854775807) : IntKind.i64.wrap n = n := by rw [i64_w, w64_id (by omega) h]

theorem get_calls {b : List Int} {A : Option Addr} {c : Nat} {w : World} (hr : RdI w .u8 A b) (hb : Bs b) (hl : b.length ≤ 9223372036854775807) : callK Try.prog 99 #[.slice A b.length c] w fun v w' => v = getV (vget b) ∧ w' = w := by
  refine callK_of Try.func99 c99 r99 (by exact Nat.le_of_ble_eq_true rfl) ?_
  rw [m99]
  simp -implicitDefEqProofs only [go_sem, ↓reduceIte, Nat.reduceEqDiff, Int.reduceLT, Nat.reduceLT, Int.reduceToNat, Int.reducePow, Nat.reduceAdd, Int.reduceEq, Nat.reduceLeDiff, Int.reduceLE]
  refine loop_intro (fun k f w' => ∃ (i : Nat) (acc : Int), k = b.length - i ∧ i ≤ b.length ∧ i ≤ 9 ∧ 0 ≤ acc ∧ acc < 2 ^ (7 * i) ∧ f 8 = .slice A b.length c ∧ f 9 = .int .i64 b.length ∧ f 10 = .int .i64 i ∧ f 5 = .int .u64 acc ∧ vget b = vgetFrom i acc (b.drop i) ∧ w' = w) b.length
    ⟨0, 0, rfl, by omega, by omega, by omega, by simp, by simp -implicitDefEqProofs only [go_sem, ↓reduceIte, Nat.reduceEqDiff, Int.reduceLT, Nat.reduceLT, Int.reduceToNat, Int.reducePow, Nat.reduceAdd, Int.reduceEq, Nat.reduceLeDiff, Int.reduceLE], by simp -implicitDefEqProofs only [go_sem, ↓reduceIte, Nat.reduceEqDiff, Int.reduceLT, Nat.reduceLT, Int.reduceToNat, Int.reducePow, Nat.reduceAdd, Int.reduceEq, Nat.reduceLeDiff, Int.reduceLE], by simp -implicitDefEqProofs only [go_sem, ↓reduceIte, Nat.reduceEqDiff, Int.reduceLT, Nat.reduceLT, Int.reduceToNat, Int.reducePow, Nat.reduceAdd, Int.reduceEq, Nat.reduceLeDiff, Int.reduceLE]; rfl, by simp -implicitDefEqProofs only [go_sem, ↓reduceIte, Nat.reduceEqDiff, Int.reduceLT, Nat.reduceLT, Int.reduceToNat, Int.reducePow, Nat.reduceAdd, Int.reduceEq, Nat.reduceLeDiff, Int.reduceLE], by simp [vget], rfl⟩ ?_
  rintro k f w1 ⟨i, acc, rfl, hi, hi9, ha0, ha, h8, h9, h10, h5, hv, rfl⟩
  by_cases hlt : i < b.length
  · have hg : b[i]? = some b[i] := List.getElem?_eq_getElem hlt
    obtain ⟨ad, rfl, hc⟩ := hr i _ hg
    obtain ⟨c0, c1⟩ := hb b[i] (List.getElem_mem hlt)
    rw [List.drop_eq_getElem_cons hlt] at hv
    generalize b[i] = x at *
    have i0 : (0 : Int) ≤ (i : Int) := by omega
    have i1 : (i : Int) < (b.length : Int) := by omega
    have e7 : IntKind.i64.wrap (7 * (i : Int)) = 7 * (i : Int) := i64_nat (by omega) (by omega)
    have e1 : IntKind.i64.wrap ((i : Int) + 1) = ((i + 1 : Nat) : Int) := i64_nat (by omega) (by omega)
    have n7 : ¬ 7 * (i : Int) < 0 := by omega
    simp only [vgetFrom] at hv
    by_cases h9' : i = 9 ∧ 1 < x
    · have hx := h9'.2
      have q : ((i : Int) == 9) = true := by rw [beq_iff_eq]; omega
      rw [if_pos h9'] at hv
      simp -implicitDefEqProofs only [go_sem, ↓reduceIte, Nat.reduceEqDiff, Int.reduceLT, Nat.reduceLT, Int.reduceToNat, Int.reducePow, Nat.reduceAdd, Int.reduceEq, Nat.reduceLeDiff, Int.reduceLE, h8, h9, h10, h5, i0, i1, hc, q, hx, if_true]
      rw [hv]
      exact ⟨rfl, trivial⟩
    · rw [if_neg h9'] at hv
      have hst := step_or hi9 ha0 ha c0 c1 (fun h => by omega)
      have hst' : bits .or .u64 acc (IntKind.u64.wrap (IntKind.u64.wrap (bits .and .u8 x 127) * 2 ^ min (7 * (i : Int)).toNat 64)) = acc + x % 128 * 2 ^ (7 * i) := by rw [← hst, w64_id (by omega) (by omega)]
      have st := step_lt (c := x) ha0 ha
      clear hst ha ha0
      obtain ⟨q9, q, hx⟩ : ∃ q9, ((i : Int) == 9) = q9 ∧ (q9 = true → ¬ 1 < x) := ⟨_, rfl, fun h => by rw [beq_iff_eq] at h; omega⟩
      by_cases hs : x < 128
      · have hm : x % 128 = x := by omega
        rw [if_pos hs] at hv
        rw [hm] at hst'
        by_cases hz : x = 0
        · have z : (x == 0) = true := by rw [hz]; rfl
          have hx : ¬ (1 : Int) < x := by omega
          by_cases hi0 : 0 < i
          · rw [if_pos ⟨hz, hi0⟩] at hv
            have q0 : (0 : Int) < (i : Int) := by omega
            cases q9 <;>
            · simp -implicitDefEqProofs only [go_sem, ↓reduceIte, Nat.reduceEqDiff, Int.reduceLT, Nat.reduceLT, Int.reduceToNat, Int.reducePow, Nat.reduceAdd, Int.reduceEq, Nat.reduceLeDiff, Int.reduceLE, h8, h9, h10, h5, i0, i1, hc, q, hx, hs, z, e7, n7, hst', q0]
              rw [hv]
              exact ⟨rfl, trivial⟩
          · rw [if_neg (by omega)] at hv
            have q0 : ¬ (0 : Int) < (i : Int) := by omega
            cases q9 <;>
            · simp -implicitDefEqProofs only [go_sem, ↓reduceIte, Nat.reduceEqDiff, Int.reduceLT, Nat.reduceLT, Int.reduceToNat, Int.reducePow, Nat.reduceAdd, Int.reduceEq, Nat.reduceLeDiff, Int.reduceLE, h8, h9, h10, h5, i0, i1, hc, q, hx, hs, z, e7, e1, n7, hst', q0]
              rw [hv]
              exact ⟨rfl, trivial⟩
        · have z : (x == 0) = false := by rw [beq_eq_false_iff_ne]; exact hz
          rw [if_neg (by omega)] at hv
          cases q9 with
          | true =>
            have hx := hx rfl
            simp -implicitDefEqProofs only [go_sem, ↓reduceIte, Nat.reduceEqDiff, Int.reduceLT, Nat.reduceLT, Int.reduceToNat, Int.reducePow, Nat.reduceAdd, Int.reduceEq, Nat.reduceLeDiff, Int.reduceLE, h8, h9, h10, h5, i0, i1, hc, q, hx, hs, z, e7, e1, n7, hst']
            rw [hv]
            exact ⟨rfl, trivial⟩
          | false =>
            simp -implicitDefEqProofs only [go_sem, ↓reduceIte, Nat.reduceEqDiff, Int.reduceLT, Nat.reduceLT, Int.reduceToNat, Int.reducePow, Nat.reduceAdd, Int.reduceEq, Nat.reduceLeDiff, Int.reduceLE, h8, h9, h10, h5, i0, i1, hc, q, hs, z, e7, e1, n7, hst']
            rw [hv]
            exact ⟨rfl, trivial⟩
      · have hm : x % 128 = x - 128 := by omega
        rw [if_neg hs] at hv
        rw [hm] at hst' st
        have h8i : i ≤ 8 := by omega
        have q : ((i : Int) == 9) = false := by rw [beq_eq_false_iff_ne]; omega
        simp -implicitDefEqProofs only [go_sem, ↓reduceIte, Nat.reduceEqDiff, Int.reduceLT, Nat.reduceLT, Int.reduceToNat, Int.reducePow, Nat.reduceAdd, Int.reduceEq, Nat.reduceLeDiff, Int.reduceLE, h8, h9, h10, h5, i0, i1, hc, q, hs, e7, e1, n7, hst']
        exact ⟨b.length - (i + 1), by omega, i + 1, _, rfl, by omega, by omega, st.1, st.2, by simp -implicitDefEqProofs only [go_sem, ↓reduceIte, Nat.reduceEqDiff, Int.reduceLT, Nat.reduceLT, Int.reduceToNat, Int.reducePow, Nat.reduceAdd, Int.reduceEq, Nat.reduceLeDiff, Int.reduceLE, h8], by simp -implicitDefEqProofs only [go_sem, ↓reduceIte, Nat.reduceEqDiff, Int.reduceLT, Nat.reduceLT, Int.reduceToNat, Int.reducePow, Nat.reduceAdd, Int.reduceEq, Nat.reduceLeDiff, Int.reduceLE, h9], by simp -implicitDefEqProofs only [go_sem, ↓reduceIte, Nat.reduceEqDiff, Int.reduceLT, Nat.reduceLT, Int.reduceToNat, Int.reducePow, Nat.reduceAdd, Int.reduceEq, Nat.reduceLeDiff, Int.reduceLE], by simp -implicitDefEqProofs only [go_sem, ↓reduceIte, Nat.reduceEqDiff, Int.reduceLT, Nat.reduceLT, Int.reduceToNat, Int.reducePow, Nat.reduceAdd, Int.reduceEq, Nat.reduceLeDiff, Int.reduceLE], hv, rfl⟩
  · have i1 : ¬ (i : Int) < (b.length : Int) := by omega
    rw [List.drop_of_length_le (by omega)] at hv
    simp -implicitDefEqProofs only [go_sem, ↓reduceIte, Nat.reduceEqDiff, Int.reduceLT, Nat.reduceLT, Int.reduceToNat, Int.reducePow, Nat.reduceAdd, Int.reduceEq, Nat.reduceLeDiff, Int.reduceLE, h8, h9, h10, h5, i1]
    rw [hv]
    exact ⟨rfl, trivial⟩
end Go.Proofs.Ytnoeeiaffnbhcaa.F
