/- The bytes that varint.Put and PutInt give are those of the number. Conditions: the number is of its kind. -/
import Derived.Test.YtnlibeaainbipaaGreatZ2
import Derived.Test.YtnlibeaainbipaaGreatMfns
import Derived.Test.YtnlibeaainbipaaGreatZ3
namespace Go.Proofs.YtnlibeaainbipaaGreat.F
open Go.RowKit Go.Proofs.YtnlibeaainbipaaGreat.M Go.Proofs.YtnlibeaainbipaaGreat.V
set_option linter.unusedSimpArgs false
set_option linter.unusedVariables false
set_option maxRecDepth 20000

theorem ie8 : IE Tryz.prog 33 5 .u8 1 := ⟨Tryz.underlying33, by kernel_rfl⟩


theorem put_calls {n : Nat} (hn : n < 18446744073709551616) (w : World) : callK Tryz.prog 23 #[.int .u64 n] w fun v w' => OwnI 5 .u8 w.heap.size w' v (vput n) ∧ Keep w w' := by
  refine callK_of Tryz.func23 c23 r23 (by exact Nat.le_of_ble_eq_true rfl) ?_
  have h10 := vput_u64 hn
  rw [m23]
  simp -implicitDefEqProofs only [go_sem, seval]
  refine loop_intro (fun k f w' => ∃ (m : Nat) (xs : List Int) (v : Value), k = m ∧ f 0 = .int .u64 m ∧ f 3 = v ∧ xs ++ vput m = vput n ∧ OwnI 5 .u8 w.heap.size w' v xs ∧ Keep w w') n ⟨n, [], _, rfl, by simp -implicitDefEqProofs only [go_sem, seval], by simp -implicitDefEqProofs only [go_sem, seval], rfl, OwnI.nil _ _ _ _, Fx.refl _ _⟩ ?_
  rintro k f w1 ⟨m, xs, v, rfl, h0, h3, hxs, hown, hk⟩
  have hl := congrArg List.length hxs
  rw [List.length_append] at hl
  have hp := vput_pos k
  have hs := hk.size
  by_cases hm : k < 128
  · have hd : decide ((128 : Int) ≤ (k : Int)) = false := decide_eq_false (by omega)
    have hb : IntKind.u8.wrap (k : Int) = k := by rw [IntKind.wrap_u8]; omega
    simp -implicitDefEqProofs only [go_sem, seval, h0, h3, hd, hb]
    refine bsl_one ie8 ?_
    simp -implicitDefEqProofs only [go_sem, seval, h0, h3]
    refine append_own (ys := [(k : Int)]) ie8 (by decide) (hown.alloc _) (RdI.new w1 5 .u8 [(k : Int)]) (by simp only [List.length_cons, List.length_nil]; omega) (by rw [size_alloc]; omega) ?_
    intro v' w2 hown' hf _
    simp -implicitDefEqProofs only [go_sem, seval]
    rw [vput_small hm] at hxs
    rw [hxs] at hown'
    exact ⟨hown', (hk.then_alloc _).then_own (hown.alloc _) hf⟩
  · have hd : decide ((128 : Int) ≤ (k : Int)) = true := decide_eq_true (by omega)
    have hb : Go.bits .or .u8 (IntKind.u8.wrap (k : Int)) 128 = ((k % 128 + 128 : Nat) : Int) := by rw [IntKind.wrap_u8]; exact or_128
    simp -implicitDefEqProofs only [go_sem, seval, h0, h3, hd, hb]
    refine bsl_one ie8 ?_
    simp -implicitDefEqProofs only [go_sem, seval, h0, h3]
    refine append_own (ys := [((k % 128 + 128 : Nat) : Int)]) ie8 (by decide) (hown.alloc _) (RdI.new w1 5 .u8 [((k % 128 + 128 : Nat) : Int)]) (by simp only [List.length_cons, List.length_nil]; omega) (by rw [size_alloc]; omega) ?_
    intro v' w2 hown' hf _
    simp -implicitDefEqProofs only [go_sem, seval, h0]
    refine ⟨k / 128, by omega, k / 128, _, v', rfl, by simp -implicitDefEqProofs only [go_sem, seval]; rfl, by simp -implicitDefEqProofs only [go_sem, seval], ?_, hown', (hk.then_alloc _).then_own (hown.alloc _) hf⟩
    rw [← hxs, vput_big hm, List.append_assoc]
    rfl

theorem putInt_calls {a : Int} (h0 : -9223372036854775808 ≤ a) (h1 : a ≤ 9223372036854775807) (w : World) : callK Tryz.prog 99 #[.int .i64 a] w fun v w' => OwnI 5 .u8 w.heap.size w' v (vput (zig a)) ∧ Keep w w' := by
  refine callK_of Tryz.func99 c99 r99 (by exact Nat.le_of_ble_eq_true rfl) ?_
  rw [m99]
  have hz : bits .xor .u64 (IntKind.u64.wrap (IntKind.i64.wrap (a * 2))) (IntKind.u64.wrap (a / 9223372036854775808)) = (zig a : Int) := by
    rw [i64_w]; exact zig_bits h0 h1
  simp -implicitDefEqProofs only [go_sem, seval, hz]
  refine (put_calls (zig_lt h0 h1) _).mono ?_
  intro v w' h
  simp -implicitDefEqProofs only [go_sem, seval]
  exact h
end Go.Proofs.YtnlibeaainbipaaGreat.F

/- What varint.Get and GetInt read is the number that the bytes begin with. Conditions: the slice's places hold the bytes. -/
namespace Go.Proofs.YtnlibeaainbipaaGreat.F
open Go.RowKit Go.Proofs.YtnlibeaainbipaaGreat.M Go.Proofs.YtnlibeaainbipaaGreat.V
set_option linter.unusedSimpArgs false
set_option linter.unusedVariables false
set_option maxRecDepth 20000

def getV (r : Int × Int × Int) : Value := .tuple #[.int .u64 r.1, .int .i64 r.2.1, .int .i64 r.2.2]
theorem i64_nat {n : Int} (h0 : 0 ≤ n) (h : n ≤ 9223372036854775807) : IntKind.i64.wrap n = n := by rw [i64_w, w64_id (by omega) h]

theorem get_calls {b : List Int} {A : Option Addr} {c : Nat} {w : World} (hr : RdI w .u8 A b) (hb : Bs b) (hl : b.length ≤ 9223372036854775807) : callK Tryz.prog 28 #[.slice A b.length c] w fun v w' => v = getV (vget b) ∧ w' = w := by
  refine callK_of Tryz.func28 c28 r28 (by exact Nat.le_of_ble_eq_true rfl) ?_
  rw [m28]
  simp -implicitDefEqProofs only [go_sem, seval]
  refine loop_intro (fun k f w' => ∃ (i : Nat) (acc : Int), k = b.length - i ∧ i ≤ b.length ∧ i ≤ 9 ∧ 0 ≤ acc ∧ acc < 2 ^ (7 * i) ∧ f 8 = .slice A b.length c ∧ f 9 = .int .i64 b.length ∧ f 10 = .int .i64 i ∧ f 5 = .int .u64 acc ∧ vget b = vgetFrom i acc (b.drop i) ∧ w' = w) b.length
    ⟨0, 0, rfl, by omega, by omega, by omega, by simp, by simp -implicitDefEqProofs only [go_sem, seval], by simp -implicitDefEqProofs only [go_sem, seval], by simp -implicitDefEqProofs only [go_sem, seval] <;> rfl, by simp -implicitDefEqProofs only [go_sem, seval], by simp [vget], rfl⟩ ?_
  rintro k f w1 ⟨i, acc, rfl, hi, hi9, ha0, ha, h8, h9, h10, h5, hv, rfl⟩
  by_cases hlt : i < b.length
  · have hg : b[i]? = some b[i] := List.getElem?_eq_getElem hlt
    obtain ⟨ad, rfl, hc⟩ := hr i _ hg
    obtain ⟨c0, c1⟩ := hb b[i] (List.getElem_mem hlt)
    rw [List.drop_eq_getElem_cons hlt] at hv
    generalize b[i] = x at *
    have i0 : (0 : Int) ≤ (i : Int) := by omega
    have i1 : (i : Int) < (b.length : Int) := by omega
    have e7 : IntKind.i64.wrap (7 * (i : Int)) = 7 * (i : Int) := i64_nat (by omega) (by omega)
    have e1 : IntKind.i64.wrap ((i : Int) + 1) = ((i + 1 : Nat) : Int) := i64_nat (by omega) (by omega)
    have n7 : ¬ 7 * (i : Int) < 0 := by omega
    simp only [vgetFrom] at hv
    by_cases h9' : i = 9 ∧ 1 < x
    · have hx := h9'.2
      have q : ((i : Int) == 9) = true := by rw [beq_iff_eq]; omega
      rw [if_pos h9'] at hv
      simp -implicitDefEqProofs only [go_sem, seval, h8, h9, h10, h5, i0, i1, hc, q, hx, if_true]
      rw [hv]
      exact ⟨rfl, trivial⟩
    · rw [if_neg h9'] at hv
      have hst := step_or hi9 ha0 ha c0 c1 (fun h => by omega)
      have hst' : bits .or .u64 acc (IntKind.u64.wrap (IntKind.u64.wrap (bits .and .u8 x 127) * 2 ^ min (7 * (i : Int)).toNat 64)) = acc + x % 128 * 2 ^ (7 * i) := by rw [← hst, w64_id (by omega) (by omega)]
      have st := step_lt (c := x) ha0 ha
      clear hst ha ha0
      obtain ⟨q9, q, hx⟩ : ∃ q9, ((i : Int) == 9) = q9 ∧ (q9 = true → ¬ 1 < x) := ⟨_, rfl, fun h => by rw [beq_iff_eq] at h; omega⟩
      by_cases hs : x < 128
      · have hm : x % 128 = x := by omega
        rw [if_pos hs] at hv
        rw [hm] at hst'
        by_cases hz : x = 0
        · have z : (x == 0) = true := by rw [hz]; rfl
          have hx : ¬ (1 : Int) < x := by omega
          by_cases hi0 : 0 < i
          · rw [if_pos ⟨hz, hi0⟩] at hv
            have q0 : (0 : Int) < (i : Int) := by omega
            cases q9 <;>
            · simp -implicitDefEqProofs only [go_sem, seval, h8, h9, h10, h5, i0, i1, hc, q, hx, hs, z, e7, n7, hst', q0]
              rw [hv]
              exact ⟨rfl, trivial⟩
          · rw [if_neg (by omega)] at hv
            have q0 : ¬ (0 : Int) < (i : Int) := by omega
            cases q9 <;>
            · simp -implicitDefEqProofs only [go_sem, seval, h8, h9, h10, h5, i0, i1, hc, q, hx, hs, z, e7, e1, n7, hst', q0]
              rw [hv]
              exact ⟨rfl, trivial⟩
        · have z : (x == 0) = false := by rw [beq_eq_false_iff_ne]; exact hz
          rw [if_neg (by omega)] at hv
          cases q9 with
          | true =>
            have hx := hx rfl
            simp -implicitDefEqProofs only [go_sem, seval, h8, h9, h10, h5, i0, i1, hc, q, hx, hs, z, e7, e1, n7, hst']
            rw [hv]
            exact ⟨rfl, trivial⟩
          | false =>
            simp -implicitDefEqProofs only [go_sem, seval, h8, h9, h10, h5, i0, i1, hc, q, hs, z, e7, e1, n7, hst']
            rw [hv]
            exact ⟨rfl, trivial⟩
      · have hm : x % 128 = x - 128 := by omega
        rw [if_neg hs] at hv
        rw [hm] at hst' st
        have h8i : i ≤ 8 := by omega
        have q : ((i : Int) == 9) = false := by rw [beq_eq_false_iff_ne]; omega
        simp -implicitDefEqProofs only [go_sem, seval, h8, h9, h10, h5, i0, i1, hc, q, hs, e7, e1, n7, hst']
        exact ⟨b.length - (i + 1), by omega, i + 1, _, rfl, by omega, by omega, st.1, st.2, by simp -implicitDefEqProofs only [go_sem, seval, h8], by simp -implicitDefEqProofs only [go_sem, seval, h9], by simp -implicitDefEqProofs only [go_sem, seval], by simp -implicitDefEqProofs only [go_sem, seval], hv, rfl⟩
  · have i1 : ¬ (i : Int) < (b.length : Int) := by omega
    rw [List.drop_of_length_le (by omega)] at hv
    simp -implicitDefEqProofs only [go_sem, seval, h8, h9, h10, h5, i1]
    rw [hv]
    exact ⟨rfl, trivial⟩
end Go.Proofs.YtnlibeaainbipaaGreat.F

/- The document's own functions on numbers give and read the same bytes. Conditions: the number is of its kind; the slice's places hold the bytes. -/
namespace Go.Proofs.YtnlibeaainbipaaGreat.F
open Go.RowKit Go.Proofs.YtnlibeaainbipaaGreat.M Go.Proofs.YtnlibeaainbipaaGreat.V
set_option linter.unusedSimpArgs false
set_option linter.unusedVariables false
set_option maxRecDepth 20000

theorem u64_nat {n : Int} (h0 : 0 ≤ n) (h : n < 18446744073709551616) : IntKind.u64.wrap n = n := u64_id h0 h
theorem u8_nat {n : Int} (h0 : 0 ≤ n) (h : n ≤ 255) : IntKind.u8.wrap n = n := by rw [IntKind.wrap_u8]; omega

def U64 (n : Nat) : Prop := n < 18446744073709551616
theorem refPut_calls (n : Nat) : U64 n → ∀ w : World, callK Tryz.prog 16 #[.int .u64 n] w fun v w' => OwnI 5 .u8 w.heap.size w' v (vput n) ∧ Keep w w' := by
  induction n using Nat.strongRecOn with
  | ind n ih =>
    intro hn w
    replace hn : n < 18446744073709551616 := hn
    have h10 := vput_u64 hn
    refine callK_of Tryz.func16 c16 r16 (by exact Nat.le_of_ble_eq_true rfl) ?_
    rw [m16]
    by_cases h : n < 128
    · have q : (n : Int) < 128 := by omega
      have e1 : IntKind.u8.wrap (n : Int) = n := u8_nat (by omega) (by omega)
      simp -implicitDefEqProofs only [go_sem, seval, q, e1]
      refine bsl_one ie8 ?_
      simp -implicitDefEqProofs only [go_sem, seval]
      rw [vput_small h]
      exact ⟨OwnI.new w 5 .u8 [(n : Int)] (Nat.le_refl _) (by simp), Fx.alloc _ _ _⟩
    · have q : ¬ (n : Int) < 128 := by omega
      have e1 : (n : Int).tmod 128 = ((n % 128 : Nat) : Int) := rfl
      have e2 : IntKind.u64.wrap (((n % 128 : Nat) : Int) + 128) = ((n % 128 + 128 : Nat) : Int) := by rw [u64_nat (by omega) (by omega)]; rfl
      have e3 : IntKind.u8.wrap ((n % 128 + 128 : Nat) : Int) = ((n % 128 + 128 : Nat) : Int) := u8_nat (by omega) (by omega)
      have e4 : (n : Int).tdiv 128 = ((n / 128 : Nat) : Int) := rfl
      have e5 : IntKind.u64.wrap ((n / 128 : Nat) : Int) = ((n / 128 : Nat) : Int) := u64_nat (by omega) (by omega)
      simp -implicitDefEqProofs only [go_sem, seval, q, e1, e2, e3]
      refine bsl_one ie8 ?_
      simp -implicitDefEqProofs only [go_sem, seval, e4, e5]
      have o1 := OwnI.new w 5 .u8 [((n % 128 + 128 : Nat) : Int)] (Nat.le_refl _) (by simp)
      refine (ih (n / 128) (by omega) (show n / 128 < 18446744073709551616 by omega) _).mono ?_
      rintro v w2 ⟨o2, k2⟩
      obtain ⟨A, c, rfl, hc, hr⟩ := o2.slice
      have k0 : Keep w w2 := ((Fx.refl (fun _ => False) w).then_alloc _).trans k2 (fun _ _ x => x)
      have hs := k0.size
      simp -implicitDefEqProofs only [go_sem, seval]
      refine append_own ie8 (by decide) (o1.fx k2 (fun _ _ x => x)) hr ?_ hs ?_
      · rw [vput_big h] at h10
        simp only [List.length_cons, List.length_nil] at h10 ⊢
        omega
      intro v' w3 o3 hf _
      simp -implicitDefEqProofs only [go_sem, seval]
      rw [vput_big h]
      exact ⟨o3, k0.then_own (o1.fx k2 (fun _ _ x => x)) hf⟩

def getIV (r : Int × Int × Int) : Value := .tuple #[.int .i64 (zag r.1), .int .i64 r.2.1, .int .i64 r.2.2]

theorem getInt_calls {b : List Int} {A : Option Addr} {c : Nat} {w : World} (hr : RdI w .u8 A b) (hb : Bs b) (hl : b.length ≤ 9223372036854775807) : callK Tryz.prog 120 #[.slice A b.length c] w fun v w' => v = getIV (vget b) ∧ w' = w := by
  refine callK_of Tryz.func120 c120 r120 (by exact Nat.le_of_ble_eq_true rfl) ?_
  rw [m120]
  simp -implicitDefEqProofs only [go_sem, seval]
  refine (get_calls hr hb hl).mono ?_
  rintro v w' ⟨rfl, rfl⟩
  obtain ⟨n, hn, e⟩ := vget_range hb
  have z := zag_bits (m := (n : Int)) (by omega) (by omega)
  have z' : bits .xor .i64 (IntKind.i64.wrap ((n : Int) / 2)) (IntKind.i64.wrap (0 - IntKind.i64.wrap (bits .and .u64 (n : Int) 1))) = zag (n : Int) := by
    rw [i64_w, i64_w, i64_w, Int.zero_sub]; exact z
  simp -implicitDefEqProofs only [go_sem, seval, getV, e, z']
  unfold getIV
  rw [e]
  exact ⟨rfl, trivial⟩
end Go.Proofs.YtnlibeaainbipaaGreat.F

/- What the document's own Get reads is what varint.Get reads. Conditions: the slice's places hold the bytes. -/
namespace Go.Proofs.YtnlibeaainbipaaGreat.F
open Go.RowKit Go.Proofs.YtnlibeaainbipaaGreat.M Go.Proofs.YtnlibeaainbipaaGreat.V
set_option linter.unusedSimpArgs false
set_option linter.unusedVariables false
set_option maxRecDepth 20000

theorem bs8 : BS Tryz.prog 33 5 9 := ⟨Tryz.underlying33, Tryz.underlying5, Tryz.underlying9⟩

theorem val_drop_le : ∀ (m : Nat) (t : List Int), val (t.drop m) ≤ val t
  | 0, t => Nat.le_refl _
  | m + 1, [] => by simp
  | m + 1, c :: r => by
    have := val_drop_le m r
    simp only [List.drop_succ_cons, val]
    omega
theorem val_drop_at {t : List Int} {m : Nat} (h : m < t.length) : val (t.drop m) = (t[m] % 128).toNat + 128 * val (t.drop (m + 1)) := by
  rw [List.drop_eq_getElem_cons h]; rfl

theorem refGet_calls {b : List Int} {A : Option Addr} {c : Nat} {w : World} (hr : RdI w .u8 A b) (hb : Bs b) (hl : b.length ≤ 9223372036854775807) (hc : b.length ≤ c) : callK Tryz.prog 31 #[.slice A b.length c] w fun v w' => v = getV (vget b) ∧ Keep w w' := by
  refine callK_of Tryz.func31 c31 r31 (by exact Nat.le_of_ble_eq_true rfl) ?_
  rw [m31]
  simp -implicitDefEqProofs only [go_sem, seval]
  refine loop_intro (fun k f w' => ∃ (i : Nat), k = b.length - i ∧ i ≤ b.length ∧ i ≤ 10 ∧ High (b.take i) ∧ f 0 = .slice A b.length c ∧ f 5 = .int .i64 i ∧ w' = w) b.length ⟨0, rfl, by omega, by omega, by intro x hx; simp at hx, by simp -implicitDefEqProofs only [go_sem, seval], by simp -implicitDefEqProofs only [go_sem, seval] <;> rfl, rfl⟩ ?_
  rintro k f w1 ⟨i, rfl, hi, hi10, hH, h0, h5, rfl⟩
  have hti : (b.take i).length = i := by rw [List.length_take]; omega
  by_cases hlt : i < b.length
  · have i1 : (i : Int) < (b.length : Int) := by omega
    have i0 : (0 : Int) ≤ (i : Int) := by omega
    by_cases h10 : i < 10
    · have q10 : (i : Int) < 10 := by omega
      obtain ⟨ad, rfl, hcell⟩ := hr.at hlt
      obtain ⟨c0, c1⟩ := hb b[i] (List.getElem_mem hlt)
      have hsplit : b = b.take i ++ b[i] :: b.drop (i + 1) := by rw [← List.drop_eq_getElem_cons hlt, List.take_append_drop]
      by_cases h128 : 128 ≤ b[i]
      · have e1 : IntKind.i64.wrap ((i : Int) + 1) = ((i + 1 : Nat) : Int) := i64_nat (by omega) (by omega)
        simp -implicitDefEqProofs only [go_sem, seval, h0, h5, i0, i1, q10, hcell, h128, e1]
        refine ⟨b.length - (i + 1), by omega, i + 1, rfl, by omega, by omega, ?_, by simp -implicitDefEqProofs only [go_sem, seval, h0], by simp -implicitDefEqProofs only [go_sem, seval], rfl⟩
        intro x hx
        rw [List.take_succ_eq_append_getElem hlt] at hx
        rcases List.mem_append.1 hx with hx | hx
        · exact hH x hx
        · simp only [List.mem_singleton] at hx
          subst hx
          exact ⟨h128, c1⟩
      · have z10 : ((i : Int) == 10) = false := by rw [beq_eq_false_iff_ne]; omega
        have zl : ((i : Int) == (b.length : Int)) = false := by rw [beq_eq_false_iff_ne]; omega
        have hch := chain_of (t := b.take i) (d := b[i]) hH c0 (by omega)
        generalize hx : b[i] = x at *
        by_cases h9 : i = 9 ∧ 1 < x
        · obtain ⟨h9i, h1⟩ := h9
          have z9 : ((i : Int) == 9) = true := by rw [beq_iff_eq]; omega
          have l9 : (9 : Int) < (b.length : Int) := by omega
          have hcell9 : w1.cell? (ad.add 9) = some (.int .u8 x) := by rw [← h9i]; exact hcell
          have hv : vget b = (0, 0, 41) := by rw [hsplit]; exact vgetFrom_nine (b.take i) 0 0 x _ hH (by omega) h1
          simp only [go_sem] at hcell9
          simp -implicitDefEqProofs only [go_sem, seval, h0, h5, i0, i1, q10, hcell, hcell9, h128, z10, z9, l9, h1, Int.reduceLE]
          rw [hv]
          exact ⟨rfl, Fx.refl _ _⟩
        · have hlen : (b.take i ++ [x]).length = i + 1 := by rw [List.length_append, hti]; rfl
          have h1' : (b.take i ++ [x]).length = 10 → last1 (b.take i ++ [x]) := fun e => last1_of (by omega)
          have hu := val_u64 (by omega) h1' hch
          have hv : vget b = _ := (congrArg vget (hsplit.trans (by rw [List.append_cons]))).trans (vget_chain hch (by omega) h1' _)
          have htk : b.take (i + 1) = b.take i ++ [x] := by rw [List.take_succ_eq_append_getElem hlt, hx]
          have e1 : IntKind.i64.wrap ((i : Int) + 1) = ((i + 1 : Nat) : Int) := i64_nat (by omega) (by omega)
          obtain ⟨q9, z9⟩ : ∃ q9, ((i : Int) == 9) = q9 := ⟨_, rfl⟩
          have start : ∀ f : Fr, f 0 = .slice (some ad) b.length c → f 5 = .int .i64 i → f 7 = .int .i64 i → f 6 = .int .u64 0 →
              ∃ m : Nat, i + 1 = m ∧ m ≤ i + 1 ∧ f 0 = .slice (some ad) b.length c ∧ f 5 = .int .i64 i ∧ f 7 = .int .i64 ((m : Int) - 1) ∧ f 6 = .int .u64 (val ((b.take (i + 1)).drop m) : Nat) ∧ w1 = w1 := by
            intro f g0 g5 g7 g6
            refine ⟨i + 1, rfl, Nat.le_refl _, g0, g5, ?_, ?_, rfl⟩
            · rw [g7]; congr 1; omega
            · rw [g6, List.drop_of_length_le (by rw [htk, hlen]; exact Nat.le_refl _)]; rfl
          cases q9
          case' false => simp -implicitDefEqProofs only [go_sem, seval, h0, h5, i0, i1, q10, hcell, h128, z10, z9, zl]
          case' true =>
            have l9 : (9 : Int) < (b.length : Int) := by rw [beq_iff_eq] at z9; omega
            have h1 : ¬ 1 < x := fun h => h9 ⟨by rw [beq_iff_eq] at z9; omega, h⟩
            have hcell9 : w1.cell? (ad.add 9) = some (.int .u8 x) := by
              have : i = 9 := by rw [beq_iff_eq] at z9; omega
              rw [← this]; exact hcell
            simp only [go_sem] at hcell9
            simp -implicitDefEqProofs only [go_sem, seval, h0, h5, i0, i1, q10, hcell, hcell9, h128, z10, z9, zl, l9, h1, Int.reduceLE]
          all_goals
            refine loop_intro (fun k f w' => ∃ m : Nat, k = m ∧ m ≤ i + 1 ∧ f 0 = .slice (some ad) b.length c ∧ f 5 = .int .i64 i ∧ f 7 = .int .i64 ((m : Int) - 1) ∧ f 6 = .int .u64 (val ((b.take (i + 1)).drop m) : Nat) ∧ w' = w1) (i + 1) (start _ (by simp -implicitDefEqProofs only [go_sem, seval, h0]) (by simp -implicitDefEqProofs only [go_sem, seval, h5]) (by simp -implicitDefEqProofs only [go_sem, seval, h5]) (by simp -implicitDefEqProofs only [go_sem, seval])) ?_
            rintro k f2 w2 ⟨m, rfl, hm, g0, g5, g7, g6, rfl⟩
            rw [htk] at g6
            cases k with
            | succ m =>
              have hm1 : m < (b.take i ++ [x]).length := by omega
              have p1 : (0 : Int) ≤ ((m + 1 : Nat) : Int) - 1 := by omega
              have p2 : ((m + 1 : Nat) : Int) - 1 < (b.length : Int) := by omega
              have pn : (((m + 1 : Nat) : Int) - 1).toNat = m := by omega
              have hmb : m < b.length := by omega
              obtain ⟨ad', e, hcm⟩ := hr.at hmb
              cases e
              have hv1 := val_drop_at hm1
              have hv2 := val_drop_le m (b.take i ++ [x])
              have hbm : (b.take i ++ [x])[m] = b[m] := by
                have : (b.take (i + 1))[m]'(by rw [htk]; exact hm1) = b[m] := List.getElem_take
                rw [← this]
                congr 1
                exact htk.symm
              rw [hbm] at hv1
              obtain ⟨d0, d1⟩ := hb b[m] (List.getElem_mem hmb)
              generalize b[m] = y at *
              generalize hV0 : val ((b.take i ++ [x]).drop m) = V0 at *
              generalize val ((b.take i ++ [x]).drop (m + 1)) = V1 at *
              have e2 : IntKind.u64.wrap ((V1 : Int) * 128) = (V1 : Int) * 128 := u64_nat (by omega) (by omega)
              have e3 : y.tmod 128 = y % 128 := Int.tmod_eq_emod_of_nonneg d0
              have e4 : IntKind.u64.wrap (y % 128) = y % 128 := u64_nat (by omega) (by omega)
              have e5 : IntKind.u64.wrap ((V1 : Int) * 128 + y % 128) = (V0 : Int) := by rw [u64_nat (by omega) (by omega)]; omega
              have e6 : IntKind.i64.wrap (((m + 1 : Nat) : Int) - 1 - 1) = (m : Int) - 1 := by rw [i64_w, w64_id (by omega) (by omega)]; omega
              simp -implicitDefEqProofs only [go_sem, seval, g0, g5, g7, g6, p1, p2, pn, hcm, e2, e3, e4, e5, e6]
              exact ⟨m, by omega, m, rfl, by omega, by simp -implicitDefEqProofs only [go_sem, seval, g0], by simp -implicitDefEqProofs only [go_sem, seval, g5], by simp -implicitDefEqProofs only [go_sem, seval], by rw [htk, hV0]; simp -implicitDefEqProofs only [go_sem, seval], rfl⟩
            | zero =>
              have p1 : ¬ (0 : Int) ≤ ((0 : Nat) : Int) - 1 := by omega
              have s0 : (0 : Int) ≤ ((i + 1 : Nat) : Int) := by omega
              have s1 : ((i + 1 : Nat) : Int) ≤ (c : Int) := by omega
              simp -implicitDefEqProofs only [go_sem, seval, g0, g5, g7, g6, p1, e1, s0, s1]
              refine seg_intro (fun w' => RdI w' .u8 (some ad) b) (by exact hr) ?_
              simp -implicitDefEqProofs only [go_sem, seval]
              refine hld_intro (.string (strOfNums (b.take (i + 1)))) (by exact hr) (fun w' hw' => ?_) ?_
              · simp -implicitDefEqProofs only [go_sem, seval]
                have := cv_bytes (P := Tryz.prog) (c := c) (k := fun u w'' => u = .string (strOfNums (b.take (i + 1))) ∧ w'' = w') bs8 (hw'.take (i + 1)) ⟨rfl, rfl⟩
                rw [htk, hlen] at this
                rw [htk]
                exact this
              · simp -implicitDefEqProofs only [go_sem, seval, g6]
                refine (refPut_calls _ hu _).mono ?_
                rintro v w3 ⟨o3, k3⟩
                have hr3 : RdI w3 .u8 (some ad) b := RdI.fx (w := w2.drew) (by exact hr) k3 (fun _ _ h => h)
                obtain ⟨A2, c2, rfl, _, hv3⟩ := o3.slice
                refine goE_intro hr3 ?_
                simp -implicitDefEqProofs only [go_sem, seval]
                refine cv_bytes bs8 hv3 ?_
                refine goE_intro hr3 ?_
                simp -implicitDefEqProofs only [go_sem, seval]
                have kk : Keep w2 w3 := (Fx.drew _ w2).trans k3 (fun _ _ h => h)
                have hbt : Bs (b.take i ++ [x]) := by
                  rw [← htk]; exact fun z hz => hb z (List.mem_of_mem_take hz)
                have hst := str_eq (vput_bs (val (b.take i ++ [x]))) hbt
                rw [htk]
                by_cases hq : vput (val (b.take i ++ [x])) = b.take i ++ [x]
                · have z : ((strOfNums (vput (val (b.take i ++ [x])))).toList == (strOfNums (b.take i ++ [x])).toList) = true := by rw [beq_iff_eq]; exact hst.2 hq
                  rw [if_pos hq, hlen] at hv
                  simp -implicitDefEqProofs only [go_sem, seval, z, g5, g6, e1]
                  rw [hv]
                  exact ⟨rfl, kk⟩
                · have z : ((strOfNums (vput (val (b.take i ++ [x])))).toList == (strOfNums (b.take i ++ [x])).toList) = false := by rw [beq_eq_false_iff_ne]; exact fun h => hq (hst.1 h)
                  rw [if_neg hq] at hv
                  simp -implicitDefEqProofs only [go_sem, seval, z]
                  rw [hv]
                  exact ⟨rfl, kk⟩
    · have h10 : i = 10 := by omega
      have z10 : ((i : Int) == 10) = true := by rw [beq_iff_eq]; omega
      have q10 : ¬ (i : Int) < 10 := by omega
      have hv : vget b = (0, 0, 41) := by
        rw [← List.take_append_drop i b]; exact vgetFrom_high (b.take i) 0 0 _ hH (by omega) (by omega)
      simp -implicitDefEqProofs only [go_sem, seval, h0, h5, i0, i1, q10, z10]
      rw [hv]
      exact ⟨rfl, Fx.refl _ _⟩
  · have hil : i = b.length := by omega
    have hbt : b.take i = b := by rw [hil, List.take_length]
    rw [hbt] at hH
    have i1 : ¬ (i : Int) < (b.length : Int) := by omega
    by_cases h10 : i = 10
    · have z10 : ((i : Int) == 10) = true := by rw [beq_iff_eq]; omega
      have hv : vget b = (0, 0, 41) := by
        have := vgetFrom_high b 0 0 [] hH (by omega) (by omega)
        rw [List.append_nil] at this
        exact this
      simp -implicitDefEqProofs only [go_sem, seval, h0, h5, i1, z10]
      rw [hv]
      exact ⟨rfl, Fx.refl _ _⟩
    · have z10 : ((i : Int) == 10) = false := by rw [beq_eq_false_iff_ne]; omega
      have zl : ((i : Int) == (b.length : Int)) = true := by rw [beq_iff_eq]; omega
      have hv : vget b = (0, 0, 40) := vgetFrom_short b 0 0 hH (by omega)
      obtain ⟨q9, z9⟩ : ∃ q9, ((i : Int) == 9) = q9 := ⟨_, rfl⟩
      cases q9 with
      | false =>
        simp -implicitDefEqProofs only [go_sem, seval, h0, h5, i1, z10, z9, zl]
        rw [hv]
        exact ⟨rfl, Fx.refl _ _⟩
      | true =>
        have l9 : ¬ (9 : Int) < (b.length : Int) := by rw [beq_iff_eq] at z9; omega
        simp -implicitDefEqProofs only [go_sem, seval, h0, h5, i1, z10, z9, zl, l9]
        rw [hv]
        exact ⟨rfl, Fx.refl _ _⟩
end Go.Proofs.YtnlibeaainbipaaGreat.F

/- The document's own reading of a whole number. Conditions: the slice's places hold the bytes. -/
namespace Go.Proofs.YtnlibeaainbipaaGreat.F
open Go.RowKit Go.Proofs.YtnlibeaainbipaaGreat.M Go.Proofs.YtnlibeaainbipaaGreat.V
set_option linter.unusedSimpArgs false
set_option linter.unusedVariables false
set_option maxRecDepth 20000

theorem refGetInt_calls {b : List Int} {A : Option Addr} {c : Nat} {w : World} (hr : RdI w .u8 A b) (hb : Bs b) (hl : b.length ≤ 9223372036854775807) (hc : b.length ≤ c) : callK Tryz.prog 94 #[.slice A b.length c] w fun v w' => v = getIV (vget b) ∧ Keep w w' := by
  refine callK_of Tryz.func94 c94 r94 (by exact Nat.le_of_ble_eq_true rfl) ?_
  rw [m94]
  simp -implicitDefEqProofs only [go_sem, seval]
  refine (refGet_calls hr hb hl hc).mono ?_
  rintro v w' ⟨rfl, hk⟩
  obtain ⟨n, hn, e⟩ := vget_range hb
  have e1 : (n : Int).tmod 2 = ((n % 2 : Nat) : Int) := rfl
  have e2 : (n : Int).tdiv 2 = ((n / 2 : Nat) : Int) := rfl
  have e3 : IntKind.u64.wrap ((n / 2 : Nat) : Int) = ((n / 2 : Nat) : Int) := u64_nat (by omega) (by omega)
  have e4 : IntKind.i64.wrap ((n / 2 : Nat) : Int) = ((n / 2 : Nat) : Int) := i64_nat (by omega) (by omega)
  unfold getIV
  rw [e]
  by_cases h : n % 2 = 0
  · have z : (((n % 2 : Nat) : Int) == 0) = true := by rw [beq_iff_eq]; omega
    have hz : zag (n : Int) = ((n / 2 : Nat) : Int) := by unfold zag; rw [if_pos (by omega)]; omega
    simp -implicitDefEqProofs only [go_sem, seval, getV, e, e1, e2, e3, e4, z]
    rw [hz]
    exact ⟨rfl, hk⟩
  · have z : (((n % 2 : Nat) : Int) == 0) = false := by rw [beq_eq_false_iff_ne]; omega
    have e5 : IntKind.i64.wrap (0 - ((n / 2 : Nat) : Int)) = -((n / 2 : Nat) : Int) := by rw [i64_w, w64_id (by omega) (by omega)]; omega
    have e6 : IntKind.i64.wrap (-((n / 2 : Nat) : Int) - 1) = zag (n : Int) := by unfold zag; rw [if_neg (by omega), i64_w, w64_id (by omega) (by omega)]; omega
    simp -implicitDefEqProofs only [go_sem, seval, getV, e, e1, e2, e3, e4, z, e5, e6]
    exact ⟨trivial, hk⟩

end Go.Proofs.YtnlibeaainbipaaGreat.F

/- The document's own bytes of a whole number. Conditions: the number is of its kind. -/
namespace Go.Proofs.YtnlibeaainbipaaGreat.F
open Go.RowKit Go.Proofs.YtnlibeaainbipaaGreat.M Go.Proofs.YtnlibeaainbipaaGreat.V
set_option linter.unusedSimpArgs false
set_option linter.unusedVariables false
set_option maxRecDepth 20000

theorem refPutInt_calls {a : Int} (h0 : -9223372036854775808 ≤ a) (h1 : a ≤ 9223372036854775807) (w : World) : callK Tryz.prog 65 #[.int .i64 a] w fun v w' => OwnI 5 .u8 w.heap.size w' v (vput (zig a)) ∧ Keep w w' := by
  refine callK_of Tryz.func65 c65 r65 (by exact Nat.le_of_ble_eq_true rfl) ?_
  rw [m65]
  by_cases h : 0 ≤ a
  · have e1 : IntKind.u64.wrap a = a := u64_nat (by omega) (by omega)
    have e2 : IntKind.u64.wrap (2 * a) = (zig a : Int) := by unfold zig; rw [if_pos h, u64_nat (by omega) (by omega)]; omega
    simp -implicitDefEqProofs only [go_sem, seval, h, e1, e2]
    refine (refPut_calls _ (zig_lt h0 h1) _).mono ?_
    intro v w' hv
    simp -implicitDefEqProofs only [go_sem, seval]
    exact hv
  · have e1 : IntKind.i64.wrap (a + 1) = a + 1 := by rw [i64_w, w64_id (by omega) (by omega)]
    have e2 : IntKind.i64.wrap (0 - (a + 1)) = -(a + 1) := by rw [i64_w, w64_id (by omega) (by omega)]; omega
    have e3 : IntKind.u64.wrap (-(a + 1)) = -(a + 1) := u64_nat (by omega) (by omega)
    have e4 : IntKind.u64.wrap (2 * (-(a + 1))) = 2 * (-(a + 1)) := u64_nat (by omega) (by omega)
    have e5 : IntKind.u64.wrap (2 * (-(a + 1)) + 1) = (zig a : Int) := by unfold zig; rw [if_neg h, u64_nat (by omega) (by omega)]; omega
    simp -implicitDefEqProofs only [go_sem, seval, h, e1, e2, e3, e4, e5]
    refine (refPut_calls _ (zig_lt h0 h1) _).mono ?_
    intro v w' hv
    simp -implicitDefEqProofs only [go_sem, seval]
    exact hv

end Go.Proofs.YtnlibeaainbipaaGreat.F
