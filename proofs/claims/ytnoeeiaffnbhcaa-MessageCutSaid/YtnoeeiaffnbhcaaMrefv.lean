/- The document's own functions on numbers give and read the same bytes. Conditions: the number is of its kind; the slice's places hold the bytes. -/
import Derived.Test.YtnoeeiaffnbhcaaMget
namespace Go.Proofs.Ytnoeeiaffnbhcaa.F
open Go.RowKit Go.Proofs.Ytnoeeiaffnbhcaa.M Go.Proofs.Ytnoeeiaffnbhcaa.V
set_option linter.unusedSimpArgs false
set_option linter.unusedVariables false
set_option maxRecDepth 20000

theorem u64_nat {n : Int} (h0 : 0 ≤ n) (h : n < 18446744073709551616) : IntKind.u64.wrap n = n := u64_id h0 h
theorem u8_nat {n : Int} (h0 : 0 ≤ n) (h : n ≤ 255) : IntKind.u8.wrap n = n := by rw [IntKind.wrap_u8]; omega

def U64 (n : Nat) : Prop := n < 18446744073709551616
theorem refPut_calls (n : Nat) : U64 n → ∀ w : World, callK Try.prog 32 #[.int .u64 n] w fun v w' => OwnI 5 .u8 w.heap.size w' v (vput n) ∧ Keep w w' := by
  induction n using Nat.strongRecOn with
  | ind n ih =>
    intro hn w
    replace hn : n < 18446744073709551616 := hn
    have h10 := vput_u64 hn
    refine callK_of Try.func32 c32 r32 (by exact Nat.le_of_ble_eq_true rfl) ?_
    rw [m32]
    by_cases h : n < 128
    · have q : (n : Int) < 128 := by omega
      have e1 : IntKind.u8.wrap (n : Int) = n := u8_nat (by omega) (by omega)
      simp -implicitDefEqProofs only [go_sem, ↓reduceIte, Nat.reduceEqDiff, Int.reduceLT, Nat.reduceLT, Int.reduceToNat, Int.reducePow, Nat.reduceAdd, Int.reduceEq, Nat.reduceLeDiff, Int.reduceLE, q, e1]
      refine bsl_one ie8 ?_
      simp -implicitDefEqProofs only [go_sem, ↓reduceIte, Nat.reduceEqDiff, Int.reduceLT, Nat.reduceLT, Int.reduceToNat, Int.reducePow, Nat.reduceAdd, Int.reduceEq, Nat.reduceLeDiff, Int.reduceLE]
      rw [vput_small h]
      exact ⟨OwnI.new w 5 .u8 [(n : Int)] (Nat.le_refl _) (by simp), Fx.alloc _ _ _⟩
    · have q : ¬ (n : Int) < 128 := by omega
      have e1 : (n : Int).tmod 128 = ((n % 128 : Nat) : Int) := rfl
      have e2 : IntKind.u64.wrap (((n % 128 : Nat) : Int) + 128) = ((n % 128 + 128 : Nat) : Int) := by rw [u64_nat (by omega) (by omega)]; rfl
      have e3 : IntKind.u8.wrap ((n % 128 + 128 : Nat) : Int) = ((n % 128 + 128 : Nat) : Int) := u8_nat (by omega) (by omega)
      have e4 : (n : Int).tdiv 128 = ((n / 128 : Nat) : Int) := rfl
      have e5 : IntKind.u64.wrap ((n / 128 : Nat) : Int) = ((n / 128 : Nat) : Int) := u64_nat (by omega) (by omega)
      simp -implicitDefEqProofs only [go_sem, ↓reduceIte, Nat.reduceEqDiff, Int.reduceLT, Nat.reduceLT, Int.reduceToNat, Int.reducePow, Nat.reduceAdd, Int.reduceEq, Nat.reduceLeDiff, Int.reduceLE, q, e1, e2, e3]
      refine bsl_one ie8 ?_
      simp -implicitDefEqProofs only [go_sem, ↓reduceIte, Nat.reduceEqDiff, Int.reduceLT, Nat.reduceLT, Int.reduceToNat, Int.reducePow, Nat.reduceAdd, Int.reduceEq, Nat.reduceLeDiff, Int.reduceLE, e4, e5]
      have o1 := OwnI.new w 5 .u8 [((n % 128 + 128 : Nat) : Int)] (Nat.le_refl _) (by simp)
      refine (ih (n / 128) (by omega) (show n / 128 < 18446744073709551616 by omega) _).mono ?_
      rintro v w2 ⟨o2, k2⟩
      obtain ⟨A, c, rfl, hc, hr⟩ := o2.slice
      have k0 : Keep w w2 := ((Fx.refl (fun _ => False) w).then_alloc _).trans k2 (fun _ _ x => x)
      have hs := k0.size
      simp -implicitDefEqProofs only [go_sem, ↓reduceIte, Nat.reduceEqDiff, Int.reduceLT, Nat.reduceLT, Int.reduceToNat, Int.reducePow, Nat.reduceAdd, Int.reduceEq, Nat.reduceLeDiff, Int.reduceLE]
      refine append_own ie8 (by decide) (o1.fx k2 (fun _ _ x => x)) hr ?_ hs ?_
      · rw [vput_big h] at h10
        simp only [List.length_cons, List.length_nil] at h10 ⊢
        omega
      intro v' w3 o3 hf _
      simp -implicitDefEqProofs only [go_sem, ↓reduceIte, Nat.reduceEqDiff, Int.reduceLT, Nat.reduceLT, Int.reduceToNat, Int.reducePow, Nat.reduceAdd, Int.reduceEq, Nat.reduceLeDiff, Int.reduceLE]
      rw [vput_big h]
      exact ⟨o3, k0.then_own (o1.fx k2 (fun _ _ x => x)) hf⟩

def getIV (r : Int × Int × Int) : Value := .tuple #[.int .i64 (zag r.1), .int .i64 r.2.1, .int .i64 r.2.2]

theorem getInt_calls {b : List Int} {A : Option Addr} {c : Nat} {w : World} (hr : RdI w .u8 A b) (hb : Bs b) (hl : b.length ≤ 9223372036854775807) : callK Try.prog 101 #[.slice A b.length c] w fun v w' => v = getIV (vget b) ∧ w' = w := by
  refine callK_of Try.func101 c101 r101 (by exact Nat.le_of_ble_eq_true rfl) ?_
  rw [m101]
  simp -implicitDefEqProofs only [go_sem, ↓reduceIte, Nat.reduceEqDiff, Int.reduceLT, Nat.reduceLT, Int.reduceToNat, Int.reducePow, Nat.reduceAdd, Int.reduceEq, Nat.reduceLeDiff, Int.reduceLE]
  refine (get_calls hr hb hl).mono ?_
  rintro v w' ⟨rfl, rfl⟩
  obtain ⟨n, hn, e⟩ := vget_range hb
  have z := zag_bits (m := (n : Int)) (by omega) (by omega)
  have z' : bits .xor .i64 (IntKind.i64.wrap ((n : Int) / 2)) (IntKind.i64.wrap (0 - IntKind.i64.wrap (bits .and .u64 (n : Int) 1))) = zag (n : Int) := by
    rw [i64_w, i64_w, i64_w, Int.zero_sub]; exact z
  simp -implicitDefEqProofs only [go_sem, ↓reduceIte, Nat.reduceEqDiff, Int.reduceLT, Nat.reduceLT, Int.reduceToNat, Int.reducePow, Nat.reduceAdd, Int.reduceEq, Nat.reduceLeDiff, Int.reduceLE, getV, e, z']
  unfold getIV
  rw [e]
  exact ⟨rfl, trivial⟩
end Go.Proofs.Ytnoeeiaffnbhcaa.F
