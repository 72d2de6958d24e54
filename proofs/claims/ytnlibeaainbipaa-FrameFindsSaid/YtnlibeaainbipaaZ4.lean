/- The bytes that varint.Put and PutInt give are those of the number. Conditions: the number is of its kind. -/
import Derived.Test.YtnlibeaainbipaaZ2
import Derived.Test.YtnlibeaainbipaaMfns
import Derived.Test.YtnlibeaainbipaaZ3
namespace Go.Proofs.Ytnlibeaainbipaa.F
open Go.RowKit Go.Proofs.Ytnlibeaainbipaa.M Go.Proofs.Ytnlibeaainbipaa.V
set_option linter.unusedSimpArgs false
set_option linter.unusedVariables false
set_option maxRecDepth 20000

theorem ie8 : IE Try.prog 26 5 .u8 1 := ⟨Try.underlying26, by kernel_rfl⟩


theorem put_calls {n : Nat} (hn : n < 18446744073709551616) (w : World) : callK Try.prog 16 #[.int .u64 n] w fun v w' => OwnI 5 .u8 w.heap.size w' v (vput n) ∧ Keep w w' := by
  refine callK_of Try.func16 c16 r16 (by exact Nat.le_of_ble_eq_true rfl) ?_
  have h10 := vput_u64 hn
  rw [m16]
  simp -implicitDefEqProofs only [go_sem, seval]
  refine loop_intro (fun k f w' => ∃ (m : Nat) (xs : List Int) (v : Value), k = m ∧ f 0 = .int .u64 m ∧ f 3 = v ∧ xs ++ vput m = vput n ∧ OwnI 5 .u8 w.heap.size w' v xs ∧ Keep w w') n ⟨n, [], _, rfl, by simp -implicitDefEqProofs only [go_sem, seval], by simp -implicitDefEqProofs only [go_sem, seval], rfl, OwnI.nil _ _ _ _, Fx.refl _ _⟩ ?_
  rintro k f w1 ⟨m, xs, v, rfl, h0, h3, hxs, hown, hk⟩
  have hl := congrArg List.length hxs
  rw [List.length_append] at hl
  have hp := vput_pos k
  have hs := hk.size
  by_cases hm : k < 128
  · have hd : decide ((128 : Int) ≤ (k : Int)) = false := decide_eq_false (by omega)
    have hb : IntKind.u8.wrap (k : Int) = k := by rw [IntKind.wrap_u8]; omega
    simp -implicitDefEqProofs only [go_sem, seval, h0, h3, hd, hb]
    refine bsl_one ie8 ?_
    simp -implicitDefEqProofs only [go_sem, seval, h0, h3]
    refine append_own (ys := [(k : Int)]) ie8 (by decide) (hown.alloc _) (RdI.new w1 5 .u8 [(k : Int)]) (by simp only [List.length_cons, List.length_nil]; omega) (by rw [size_alloc]; omega) ?_
    intro v' w2 hown' hf _
    simp -implicitDefEqProofs only [go_sem, seval]
    rw [vput_small hm] at hxs
    rw [hxs] at hown'
    exact ⟨hown', (hk.then_alloc _).then_own (hown.alloc _) hf⟩
  · have hd : decide ((128 : Int) ≤ (k : Int)) = true := decide_eq_true (by omega)
    have hb : Go.bits .or .u8 (IntKind.u8.wrap (k : Int)) 128 = ((k % 128 + 128 : Nat) : Int) := by rw [IntKind.wrap_u8]; exact or_128
    simp -implicitDefEqProofs only [go_sem, seval, h0, h3, hd, hb]
    refine bsl_one ie8 ?_
    simp -implicitDefEqProofs only [go_sem, seval, h0, h3]
    refine append_own (ys := [((k % 128 + 128 : Nat) : Int)]) ie8 (by decide) (hown.alloc _) (RdI.new w1 5 .u8 [((k % 128 + 128 : Nat) : Int)]) (by simp only [List.length_cons, List.length_nil]; omega) (by rw [size_alloc]; omega) ?_
    intro v' w2 hown' hf _
    simp -implicitDefEqProofs only [go_sem, seval, h0]
    refine ⟨k / 128, by omega, k / 128, _, v', rfl, by simp -implicitDefEqProofs only [go_sem, seval]; rfl, by simp -implicitDefEqProofs only [go_sem, seval], ?_, hown', (hk.then_alloc _).then_own (hown.alloc _) hf⟩
    rw [← hxs, vput_big hm, List.append_assoc]
    rfl

theorem putInt_calls {a : Int} (h0 : -9223372036854775808 ≤ a) (h1 : a ≤ 9223372036854775807) (w : World) : callK Try.prog 65 #[.int .i64 a] w fun v w' => OwnI 5 .u8 w.heap.size w' v (vput (zig a)) ∧ Keep w w' := by
  refine callK_of Try.func65 c65 r65 (by exact Nat.le_of_ble_eq_true rfl) ?_
  rw [m65]
  have hz : bits .xor .u64 (IntKind.u64.wrap (IntKind.i64.wrap (a * 2))) (IntKind.u64.wrap (a / 9223372036854775808)) = (zig a : Int) := by
    rw [i64_w]; exact zig_bits h0 h1
  simp -implicitDefEqProofs only [go_sem, seval, hz]
  refine (put_calls (zig_lt h0 h1) _).mono ?_
  intro v w' h
  simp -implicitDefEqProofs only [go_sem, seval]
  exact h
end Go.Proofs.Ytnlibeaainbipaa.F

/- What varint.Get and GetInt read is the number that the bytes begin with. Conditions: the slice's places hold the bytes. -/
namespace Go.Proofs.Ytnlibeaainbipaa.F
open Go.RowKit Go.Proofs.Ytnlibeaainbipaa.M Go.Proofs.Ytnlibeaainbipaa.V
set_option linter.unusedSimpArgs false
set_option linter.unusedVariables false
set_option maxRecDepth 20000

def getV (r : Int × Int × Int) : Value := .tuple #[.int .u64 r.1, .int .i64 r.2.1, .int .i64 r.2.2]
theorem i64_nat {n : Int} (h0 : 0 ≤ n) (h : n ≤ 9223372036854775807) : IntKind.i64.wrap n = n := by rw [i64_w, w64_id (by omega) h]

theorem get_calls {b : List Int} {A : Option Addr} {c : Nat} {w : World} (hr : RdI w .u8 A b) (hb : Bs b) (hl : b.length ≤ 9223372036854775807) : callK Try.prog 19 #[.slice A b.length c] w fun v w' => v = getV (vget b) ∧ w' = w := by
  refine callK_of Try.func19 c19 r19 (by exact Nat.le_of_ble_eq_true rfl) ?_
  rw [m19]
  simp -implicitDefEqProofs only [go_sem, seval]
  refine loop_intro (fun k f w' => ∃ (i : Nat) (acc : Int), k = b.length - i ∧ i ≤ b.length ∧ i ≤ 9 ∧ 0 ≤ acc ∧ acc < 2 ^ (7 * i) ∧ f 8 = .slice A b.length c ∧ f 9 = .int .i64 b.length ∧ f 10 = .int .i64 i ∧ f 5 = .int .u64 acc ∧ vget b = vgetFrom i acc (b.drop i) ∧ w' = w) b.length
    ⟨0, 0, rfl, by omega, by omega, by omega, by simp, by simp -implicitDefEqProofs only [go_sem, seval], by simp -implicitDefEqProofs only [go_sem, seval], by simp -implicitDefEqProofs only [go_sem, seval] <;> rfl, by simp -implicitDefEqProofs only [go_sem, seval], by simp [vget], rfl⟩ ?_
  rintro k f w1 ⟨i, acc, rfl, hi, hi9, ha0, ha, h8, h9, h10, h5, hv, rfl⟩
  by_cases hlt : i < b.length
  · have hg : b[i]? = some b[i] := List.getElem?_eq_getElem hlt
    obtain ⟨ad, rfl, hc⟩ := hr i _ hg
    obtain ⟨c0, c1⟩ := hb b[i] (List.getElem_mem hlt)
    rw [List.drop_eq_getElem_cons hlt] at hv
    generalize b[i] = x at *
    have i0 : (0 : Int) ≤ (i : Int) := by omega
    have i1 : (i : Int) < (b.length : Int) := by omega
    have e7 : IntKind.i64.wrap (7 * (i : Int)) = 7 * (i : Int) := i64_nat (by omega) (by omega)
    have e1 : IntKind.i64.wrap ((i : Int) + 1) = ((i + 1 : Nat) : Int) := i64_nat (by omega) (by omega)
    have n7 : ¬ 7 * (i : Int) < 0 := by omega
    simp only [vgetFrom] at hv
    by_cases h9' : i = 9 ∧ 1 < x
    · have hx := h9'.2
      have q : ((i : Int) == 9) = true := by rw [beq_iff_eq]; omega
      rw [if_pos h9'] at hv
      simp -implicitDefEqProofs only [go_sem, seval, h8, h9, h10, h5, i0, i1, hc, q, hx, if_true]
      rw [hv]
      exact ⟨rfl, trivial⟩
    · rw [if_neg h9'] at hv
      have hst := step_or hi9 ha0 ha c0 c1 (fun h => by omega)
      have hst' : bits .or .u64 acc (IntKind.u64.wrap (IntKind.u64.wrap (bits .and .u8 x 127) * 2 ^ min (7 * (i : Int)).toNat 64)) = acc + x % 128 * 2 ^ (7 * i) := by rw [← hst, w64_id (by omega) (by omega)]
      have st := step_lt (c := x) ha0 ha
      clear hst ha ha0
      obtain ⟨q9, q, hx⟩ : ∃ q9, ((i : Int) == 9) = q9 ∧ (q9 = true → ¬ 1 < x) := ⟨_, rfl, fun h => by rw [beq_iff_eq] at h; omega⟩
      by_cases hs : x < 128
      · have hm : x % 128 = x := by omega
        rw [if_pos hs] at hv
        rw [hm] at hst'
        by_cases hz : x = 0
        · have z : (x == 0) = true := by rw [hz]; rfl
          have hx : ¬ (1 : Int) < x := by omega
          by_cases hi0 : 0 < i
          · rw [if_pos ⟨hz, hi0⟩] at hv
            have q0 : (0 : Int) < (i : Int) := by omega
            cases q9 <;>
            · simp -implicitDefEqProofs only [go_sem, seval, h8, h9, h10, h5, i0, i1, hc, q, hx, hs, z, e7, n7, hst', q0]
              rw [hv]
              exact ⟨rfl, trivial⟩
          · rw [if_neg (by omega)] at hv
            have q0 : ¬ (0 : Int) < (i : Int) := by omega
            cases q9 <;>
            · simp -implicitDefEqProofs only [go_sem, seval, h8, h9, h10, h5, i0, i1, hc, q, hx, hs, z, e7, e1, n7, hst', q0]
              rw [hv]
              exact ⟨rfl, trivial⟩
        · have z : (x == 0) = false := by rw [beq_eq_false_iff_ne]; exact hz
          rw [if_neg (by omega)] at hv
          cases q9 with
          | true =>
            have hx := hx rfl
            simp -implicitDefEqProofs only [go_sem, seval, h8, h9, h10, h5, i0, i1, hc, q, hx, hs, z, e7, e1, n7, hst']
            rw [hv]
            exact ⟨rfl, trivial⟩
          | false =>
            simp -implicitDefEqProofs only [go_sem, seval, h8, h9, h10, h5, i0, i1, hc, q, hs, z, e7, e1, n7, hst']
            rw [hv]
            exact ⟨rfl, trivial⟩
      · have hm : x % 128 = x - 128 := by omega
        rw [if_neg hs] at hv
        rw [hm] at hst' st
        have h8i : i ≤ 8 := by omega
        have q : ((i : Int) == 9) = false := by rw [beq_eq_false_iff_ne]; omega
        simp -implicitDefEqProofs only [go_sem, seval, h8, h9, h10, h5, i0, i1, hc, q, hs, e7, e1, n7, hst']
        exact ⟨b.length - (i + 1), by omega, i + 1, _, rfl, by omega, by omega, st.1, st.2, by simp -implicitDefEqProofs only [go_sem, seval, h8], by simp -implicitDefEqProofs only [go_sem, seval, h9], by simp -implicitDefEqProofs only [go_sem, seval], by simp -implicitDefEqProofs only [go_sem, seval], hv, rfl⟩
  · have i1 : ¬ (i : Int) < (b.length : Int) := by omega
    rw [List.drop_of_length_le (by omega)] at hv
    simp -implicitDefEqProofs only [go_sem, seval, h8, h9, h10, h5, i1]
    rw [hv]
    exact ⟨rfl, trivial⟩
end Go.Proofs.Ytnlibeaainbipaa.F

/- The document's own functions on numbers give and read the same bytes. Conditions: the number is of its kind; the slice's places hold the bytes. -/
namespace Go.Proofs.Ytnlibeaainbipaa.F
open Go.RowKit Go.Proofs.Ytnlibeaainbipaa.M Go.Proofs.Ytnlibeaainbipaa.V
set_option linter.unusedSimpArgs false
set_option linter.unusedVariables false
set_option maxRecDepth 20000

theorem u64_nat {n : Int} (h0 : 0 ≤ n) (h : n < 18446744073709551616) : IntKind.u64.wrap n = n := u64_id h0 h
theorem u8_nat {n : Int} (h0 : 0 ≤ n) (h : n ≤ 255) : IntKind.u8.wrap n = n := by rw [IntKind.wrap_u8]; omega

def U64 (n : Nat) : Prop := n < 18446744073709551616
def getIV (r : Int × Int × Int) : Value := .tuple #[.int .i64 (zag r.1), .int .i64 r.2.1, .int .i64 r.2.2]

theorem getInt_calls {b : List Int} {A : Option Addr} {c : Nat} {w : World} (hr : RdI w .u8 A b) (hb : Bs b) (hl : b.length ≤ 9223372036854775807) : callK Try.prog 86 #[.slice A b.length c] w fun v w' => v = getIV (vget b) ∧ w' = w := by
  refine callK_of Try.func86 c86 r86 (by exact Nat.le_of_ble_eq_true rfl) ?_
  rw [m86]
  simp -implicitDefEqProofs only [go_sem, seval]
  refine (get_calls hr hb hl).mono ?_
  rintro v w' ⟨rfl, rfl⟩
  obtain ⟨n, hn, e⟩ := vget_range hb
  have z := zag_bits (m := (n : Int)) (by omega) (by omega)
  have z' : bits .xor .i64 (IntKind.i64.wrap ((n : Int) / 2)) (IntKind.i64.wrap (0 - IntKind.i64.wrap (bits .and .u64 (n : Int) 1))) = zag (n : Int) := by
    rw [i64_w, i64_w, i64_w, Int.zero_sub]; exact z
  simp -implicitDefEqProofs only [go_sem, seval, getV, e, z']
  unfold getIV
  rw [e]
  exact ⟨rfl, trivial⟩
end Go.Proofs.Ytnlibeaainbipaa.F

/- What the document's own Get reads is what varint.Get reads. Conditions: the slice's places hold the bytes. -/
namespace Go.Proofs.Ytnlibeaainbipaa.F
open Go.RowKit Go.Proofs.Ytnlibeaainbipaa.M Go.Proofs.Ytnlibeaainbipaa.V
set_option linter.unusedSimpArgs false
set_option linter.unusedVariables false
set_option maxRecDepth 20000

theorem bs8 : BS Try.prog 26 5 9 := ⟨Try.underlying26, Try.underlying5, Try.underlying9⟩

theorem val_drop_le : ∀ (m : Nat) (t : List Int), val (t.drop m) ≤ val t
  | 0, t => Nat.le_refl _
  | m + 1, [] => by simp
  | m + 1, c :: r => by
    have := val_drop_le m r
    simp only [List.drop_succ_cons, val]
    omega
theorem val_drop_at {t : List Int} {m : Nat} (h : m < t.length) : val (t.drop m) = (t[m] % 128).toNat + 128 * val (t.drop (m + 1)) := by
  rw [List.drop_eq_getElem_cons h]; rfl

end Go.Proofs.Ytnlibeaainbipaa.F

/- The document's own reading of a whole number. Conditions: the slice's places hold the bytes. -/
namespace Go.Proofs.Ytnlibeaainbipaa.F
open Go.RowKit Go.Proofs.Ytnlibeaainbipaa.M Go.Proofs.Ytnlibeaainbipaa.V
set_option linter.unusedSimpArgs false
set_option linter.unusedVariables false
set_option maxRecDepth 20000

end Go.Proofs.Ytnlibeaainbipaa.F
