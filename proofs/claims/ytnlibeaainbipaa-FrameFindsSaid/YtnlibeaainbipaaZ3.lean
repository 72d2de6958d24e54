/- Numbers as bytes, seven bits a byte, in plain lists: what is written is read back, what is cut off is not, and only the shortest form is taken. Conditions: none. -/
import Derived.Laws.BitsLemmas
import Derived.RowKit
import Derived.Lib.Bytes
import Derived.OpenShut
namespace Go.Proofs.Ytnlibeaainbipaa.V

/-! ### what is written -/
def vput (n : Nat) : List Int := if n < 128 then [(n : Int)] else ((n % 128 + 128 : Nat) : Int) :: vput (n / 128)
termination_by n
decreasing_by omega

theorem vput_small {n : Nat} (h : n < 128) : vput n = [(n : Int)] := by rw [vput, if_pos h]
theorem vput_big {n : Nat} (h : ¬ n < 128) : vput n = ((n % 128 + 128 : Nat) : Int) :: vput (n / 128) := by rw [vput, if_neg h]

theorem vput_pos (n : Nat) : 0 < (vput n).length := by
  by_cases h : n < 128
  · rw [vput_small h]; simp
  · rw [vput_big h]; simp

theorem vput_le : ∀ (k n : Nat), n < 128 ^ (k + 1) → (vput n).length ≤ k + 1
  | 0, n, h => by rw [vput_small (by simpa using h)]; simp
  | k + 1, n, h => by
    by_cases h1 : n < 128
    · rw [vput_small h1]; simp
    · rw [vput_big h1]
      have : n / 128 < 128 ^ (k + 1) := by
        rw [Nat.div_lt_iff_lt_mul (by decide)]
        rw [Nat.pow_succ] at h
        exact h
      have := vput_le k (n / 128) this
      simp only [List.length_cons]; omega

theorem vput_u64 {n : Nat} (h : n < 18446744073709551616) : (vput n).length ≤ 10 := vput_le 9 n (Nat.lt_of_lt_of_le h (by decide))

theorem vput_byte {n : Nat} {x : Int} (h : x ∈ vput n) : 0 ≤ x ∧ x ≤ 255 := by
  induction n using Nat.strongRecOn with
  | ind n ih =>
    by_cases h1 : n < 128
    · rw [vput_small h1] at h; simp at h; omega
    · rw [vput_big h1] at h
      rcases List.mem_cons.1 h with h | h
      · omega
      · exact ih (n / 128) (by omega) h

/-- The last byte alone is small. -/
theorem vput_at {n : Nat} : ∀ (i : Nat) (h : i < (vput n).length), (128 ≤ (vput n)[i] ↔ i + 1 < (vput n).length) := by
  induction n using Nat.strongRecOn with
  | ind n ih =>
    intro i h
    by_cases h1 : n < 128
    · have e := vput_small h1
      simp only [e] at h ⊢
      simp at h
      subst h
      simp; omega
    · have e := vput_big h1
      simp only [e] at h ⊢
      cases i with
      | zero =>
        have := vput_pos (n / 128)
        simp; omega
      | succ i =>
        have := ih (n / 128) (by omega) i (by simpa using h)
        simp; omega

theorem vput_inj {a : Nat} : ∀ {b : Nat}, vput a = vput b → a = b := by
  induction a using Nat.strongRecOn with
  | ind a ih =>
    intro b h
    have pa := vput_pos (a / 128)
    have pb := vput_pos (b / 128)
    by_cases ha : a < 128
    · by_cases hb : b < 128
      · rw [vput_small ha, vput_small hb] at h; simp at h; omega
      · rw [vput_small ha, vput_big hb] at h
        have := congrArg List.length h
        simp only [List.length_cons, List.length_nil] at this; omega
    · by_cases hb : b < 128
      · rw [vput_big ha, vput_small hb] at h
        have := congrArg List.length h
        simp only [List.length_cons, List.length_nil] at this; omega
      · rw [vput_big ha, vput_big hb] at h
        obtain ⟨h0, h1⟩ := List.cons.inj h
        have := ih (a / 128) (by omega) h1
        omega

theorem vput_mono {a : Nat} : ∀ {b : Nat}, a ≤ b → (vput a).length ≤ (vput b).length := by
  induction a using Nat.strongRecOn with
  | ind a ih =>
    intro b h
    have pb := vput_pos b
    by_cases ha : a < 128
    · rw [vput_small ha]; simp; omega
    · rw [vput_big ha, vput_big (by omega : ¬ b < 128)]
      have := ih (a / 128) (by omega) (Nat.div_le_div_right h : a / 128 ≤ b / 128)
      simp; omega

/-! ### what is read -/
/-- From byte i on, where acc has been read: the number, how many bytes, an error's number. -/
def vgetFrom : Nat → Int → List Int → Int × Int × Int
  | _, _, [] => (0, 0, 40)
  | i, acc, c :: r => if i = 9 ∧ 1 < c then (0, 0, 41) else if c < 128 then (if c = 0 ∧ 0 < i then (0, 0, 41) else (acc + c * 2 ^ (7 * i), (i : Int) + 1, 0)) else vgetFrom (i + 1) (acc + (c - 128) * 2 ^ (7 * i)) r
def vget (b : List Int) : Int × Int × Int := vgetFrom 0 0 b

theorem pow7 (i : Nat) : (2 : Int) ^ (7 * (i + 1)) = 2 ^ (7 * i) * 128 := by rw [Nat.mul_add, Int.pow_add]; rfl
theorem pow7_pos (i : Nat) : (0 : Int) < 2 ^ (7 * i) := Int.pow_pos (by decide)

theorem split7 (n : Nat) (p : Int) : ((n % 128 : Nat) : Int) * p + ((n / 128 : Nat) : Int) * (p * 128) = (n : Int) * p := by
  have h : (n : Int) = ((n % 128 : Nat) : Int) + ((n / 128 : Nat) : Int) * 128 := by omega
  calc ((n % 128 : Nat) : Int) * p + ((n / 128 : Nat) : Int) * (p * 128) = (((n % 128 : Nat) : Int) + ((n / 128 : Nat) : Int) * 128) * p := by
        rw [Int.add_mul, Int.mul_assoc, Int.mul_comm p 128]
    _ = (n : Int) * p := by rw [← h]

theorem small_at {n i : Nat} (h : (n : Int) * 2 ^ (7 * i) < 18446744073709551616) (hi : i = 9) : n ≤ 1 := by
  subst hi
  have : (2 : Int) ^ (7 * 9) = 9223372036854775808 := by decide
  rw [this] at h
  omega

theorem next_at {n i : Nat} (h : (n : Int) * 2 ^ (7 * i) < 18446744073709551616) : ((n / 128 : Nat) : Int) * 2 ^ (7 * (i + 1)) < 18446744073709551616 := by
  refine Int.lt_of_le_of_lt ?_ h
  rw [pow7, ← split7 n (2 ^ (7 * i))]
  have h1 : (0 : Int) ≤ ((n % 128 : Nat) : Int) * 2 ^ (7 * i) := Int.mul_nonneg (Int.natCast_nonneg _) (Int.le_of_lt (pow7_pos i))
  omega

theorem vgetFrom_put (n : Nat) : ∀ (i : Nat) (acc : Int) (rest : List Int), (0 < i → 0 < n) → (n : Int) * 2 ^ (7 * i) < 18446744073709551616 →
    vgetFrom i acc (vput n ++ rest) = (acc + n * 2 ^ (7 * i), (i : Int) + (vput n).length, 0) := by
  induction n using Nat.strongRecOn with
  | ind n ih =>
    intro i acc rest hp hlt
    have h9 := small_at hlt
    by_cases h : n < 128
    · rw [vput_small h]
      simp only [List.cons_append, List.nil_append, vgetFrom, List.length_cons, List.length_nil]
      rw [if_neg (by omega), if_pos (by omega), if_neg (by omega)]
      simp
    · rw [vput_big h]
      simp only [List.cons_append, vgetFrom, List.length_cons]
      rw [if_neg (by omega), if_neg (by omega), ih (n / 128) (by omega) (i + 1) _ rest (by omega) (next_at hlt)]
      have e : ((n % 128 + 128 : Nat) : Int) - 128 = ((n % 128 : Nat) : Int) := by omega
      rw [e, Int.add_assoc, pow7, split7]
      simp only [Prod.mk.injEq, and_true, true_and]
      omega

theorem vget_put {n : Nat} (h : n < 18446744073709551616) (rest : List Int) : vget (vput n ++ rest) = ((n : Int), ((vput n).length : Int), 0) := by
  unfold vget
  rw [vgetFrom_put n 0 0 rest (by omega) (by simp; omega)]
  simp

theorem vgetFrom_cut (n : Nat) : ∀ (i : Nat) (acc : Int) (j : Nat), (n : Int) * 2 ^ (7 * i) < 18446744073709551616 → j < (vput n).length →
    vgetFrom i acc ((vput n).take j) = (0, 0, 40) := by
  induction n using Nat.strongRecOn with
  | ind n ih =>
    intro i acc j hlt hj
    have h9 := small_at hlt
    by_cases h : n < 128
    · rw [vput_small h] at hj ⊢
      have : j = 0 := by simpa using hj
      subst this; rfl
    · rw [vput_big h] at hj ⊢
      cases j with
      | zero => rfl
      | succ j =>
        simp only [List.take_succ_cons, vgetFrom]
        rw [if_neg (by omega), if_neg (by omega)]
        exact ih (n / 128) (by omega) (i + 1) _ j (next_at hlt) (by simpa using hj)

theorem vget_cut {n : Nat} (h : n < 18446744073709551616) {j : Nat} (hj : j < (vput n).length) : vget ((vput n).take j) = (0, 0, 40) :=
  vgetFrom_cut n 0 0 j (by simp; omega) hj

/-- Only what put writes is taken, and then all is as it was written. -/
theorem vgetFrom_ok (b : List Int) : ∀ (i : Nat) (acc : Int), i ≤ 9 → 0 ≤ acc → acc < 2 ^ (7 * i) → (∀ x ∈ b, 0 ≤ x ∧ x ≤ 255) → (vgetFrom i acc b).2.2 = 0 →
    ∃ n : Nat, (0 < i → 0 < n) ∧ (n : Int) * 2 ^ (7 * i) < 18446744073709551616 ∧ ∃ rest, b = vput n ++ rest := by
  induction b with
  | nil => intro i acc _ _ _ _ h; simp [vgetFrom] at h
  | cons c r ih =>
    intro i acc hi ha0 ha hb h
    obtain ⟨c0, c1⟩ := hb c (by simp)
    obtain ⟨m, rfl⟩ := Int.eq_ofNat_of_zero_le c0
    simp only [vgetFrom] at h
    have hp := pow7_pos i
    have hc9 : i ≤ 8 → (2 : Int) ^ (7 * i) ≤ 2 ^ (7 * 8) := fun h8 => by
      have : (2 : Nat) ^ (7 * i) ≤ 2 ^ (7 * 8) := Nat.pow_le_pow_right (by decide) (by omega)
      exact_mod_cast this
    by_cases h9 : i = 9 ∧ 1 < (m : Int)
    · rw [if_pos h9] at h; simp at h
    · rw [if_neg h9] at h
      by_cases hs : (m : Int) < 128
      · rw [if_pos hs] at h
        by_cases hz : (m : Int) = 0 ∧ 0 < i
        · rw [if_pos hz] at h; simp at h
        · refine ⟨m, by omega, ?_, r, by rw [vput_small (by omega)]; rfl⟩
          by_cases h8 : i ≤ 8
          · have h2 := hc9 h8
            have e : (2 : Int) ^ (7 * 8) = 72057594037927936 := by decide
            have : (m : Int) * 2 ^ (7 * i) ≤ 127 * 2 ^ (7 * 8) := Int.mul_le_mul (by omega) h2 (Int.le_of_lt hp) (by decide)
            rw [e] at this
            omega
          · have h9' : i = 9 := by omega
            subst h9'
            have e : (2 : Int) ^ (7 * 9) = 9223372036854775808 := by decide
            rw [e]
            omega
      · rw [if_neg hs] at h
        have h8 : i ≤ 8 := by omega
        have ha' : acc + ((m : Int) - 128) * 2 ^ (7 * i) < 2 ^ (7 * (i + 1)) := by
          rw [pow7]
          have : ((m : Int) - 128) * 2 ^ (7 * i) ≤ 127 * 2 ^ (7 * i) := Int.mul_le_mul_of_nonneg_right (by omega) (Int.le_of_lt hp)
          omega
        have ha0' : 0 ≤ acc + ((m : Int) - 128) * 2 ^ (7 * i) := by
          have : 0 ≤ ((m : Int) - 128) * 2 ^ (7 * i) := Int.mul_nonneg (by omega) (Int.le_of_lt hp)
          omega
        obtain ⟨n, hn0, hn, rest, rfl⟩ := ih (i + 1) _ (by omega) ha0' ha' (fun x hx => hb x (by simp [hx])) h
        have hn1 : 0 < n := hn0 (by omega)
        have e1 : (n * 128 + (m - 128)) % 128 = m - 128 := by omega
        have e2 : (n * 128 + (m - 128)) / 128 = n := by omega
        refine ⟨n * 128 + (m - 128), by omega, ?_, rest, ?_⟩
        · have e3 := split7 (n * 128 + (m - 128)) (2 ^ (7 * i))
          rw [e1, e2] at e3
          rw [← e3]
          rw [pow7] at hn
          have : ((m - 128 : Nat) : Int) * 2 ^ (7 * i) ≤ 127 * 2 ^ (7 * i) := Int.mul_le_mul_of_nonneg_right (by omega) (Int.le_of_lt hp)
          -- n * (p * 128) < 2^64 with p * 128 dividing 2^63 leaves room
          have hd : ∃ q : Int, (18446744073709551616 : Int) = q * (2 ^ (7 * i) * 128) := by
            refine ⟨2 ^ (57 - 7 * i), ?_⟩
            have : (2 : Int) ^ (57 - 7 * i) * (2 ^ (7 * i) * 128) = 2 ^ (57 - 7 * i + 7 * i + 7) := by rw [Int.pow_add, Int.pow_add, Int.mul_assoc]; rfl
            rw [this, show 57 - 7 * i + 7 * i + 7 = 64 by omega]; rfl
          obtain ⟨q, hq⟩ := hd
          rw [hq] at hn ⊢
          have hnq : (n : Int) < q := Int.lt_of_mul_lt_mul_right hn (by omega)
          have : ((n : Int) + 1) * (2 ^ (7 * i) * 128) ≤ q * (2 ^ (7 * i) * 128) := Int.mul_le_mul_of_nonneg_right (by omega) (by omega)
          rw [Int.add_mul] at this
          omega
        · rw [vput_big (by omega : ¬ n * 128 + (m - 128) < 128), e1, e2]
          simp only [List.cons_append, List.cons.injEq, and_true]
          omega

theorem vget_ok {b : List Int} (hb : ∀ x ∈ b, 0 ≤ x ∧ x ≤ 255) (h : (vget b).2.2 = 0) : ∃ n : Nat, n < 18446744073709551616 ∧ ∃ rest, b = vput n ++ rest := by
  obtain ⟨n, _, hn, rest, e⟩ := vgetFrom_ok b 0 0 (by omega) (by omega) (by simp) hb h
  refine ⟨n, ?_, rest, e⟩
  simp at hn
  omega

theorem vgetFrom_err (b : List Int) : ∀ (i : Nat) (acc : Int), (vgetFrom i acc b).2.2 ≠ 0 → (vgetFrom i acc b).1 = 0 ∧ (vgetFrom i acc b).2.1 = 0 := by
  induction b with
  | nil => intro i acc _; exact ⟨rfl, rfl⟩
  | cons c r ih =>
    intro i acc h
    simp only [vgetFrom] at h ⊢
    by_cases h9 : i = 9 ∧ 1 < c
    · rw [if_pos h9]; exact ⟨rfl, rfl⟩
    · rw [if_neg h9] at h ⊢
      by_cases hs : c < 128
      · rw [if_pos hs] at h ⊢
        by_cases hz : c = 0 ∧ 0 < i
        · rw [if_pos hz]; exact ⟨rfl, rfl⟩
        · rw [if_neg hz] at h; exact absurd rfl h
      · rw [if_neg hs] at h ⊢
        exact ih _ _ h
/-- What is read is a number of 64 bits, an error's number is one of three, and no more bytes are used than there are. -/
theorem vget_range {b : List Int} (hb : ∀ x ∈ b, 0 ≤ x ∧ x ≤ 255) : ∃ n : Nat, n < 18446744073709551616 ∧ (vget b).1 = n := by
  by_cases h : (vget b).2.2 = 0
  · obtain ⟨n, hn, rest, rfl⟩ := vget_ok hb h
    exact ⟨n, hn, by rw [vget_put hn]⟩
  · exact ⟨0, by decide, (vgetFrom_err b 0 0 h).1⟩

/-! ### whole numbers -/
/-- A whole number's number. -/
def zig (n : Int) : Nat := if 0 ≤ n then (2 * n).toNat else (2 * (-(n + 1)) + 1).toNat
def zag (m : Int) : Int := if m % 2 = 0 then m / 2 else -(m / 2) - 1
theorem zag_zig (n : Int) : zag (zig n : Int) = n := by unfold zig zag; split <;> (split <;> omega)
theorem zig_lt {n : Int} (h0 : -9223372036854775808 ≤ n) (h1 : n ≤ 9223372036854775807) : zig n < 18446744073709551616 := by unfold zig; split <;> omega
theorem zig_inj {a b : Int} (h : zig a = zig b) : a = b := by rw [← zag_zig a, ← zag_zig b, h]
end Go.Proofs.Ytnlibeaainbipaa.V

/- The bit operations of the varint code, as plain sums. Conditions: the ranges that each theorem names. -/
namespace Go.Proofs.Ytnlibeaainbipaa.V
open Go.RowKit

theorem u64_id {n : Int} (h0 : 0 ≤ n) (h : n < 18446744073709551616) : IntKind.u64.wrap n = n := by
  simp [IntKind.wrap, IntKind.bits, IntKind.signed]; omega
theorem u64_mod (n : Int) : IntKind.u64.wrap n = n % 18446744073709551616 := by simp [IntKind.wrap, IntKind.bits, IntKind.signed]
theorem w64_id {n : Int} (h0 : -9223372036854775808 ≤ n) (h : n ≤ 9223372036854775807) : wrap64 n = n := by unfold wrap64; omega

set_option maxRecDepth 10000 in
theorem or128_nat : ∀ a < 256, a ||| 128 = a % 128 + 128 := by decide
theorem or_128 {n : Nat} : Go.bits .or .u8 ((n : Int) % 256) 128 = ((n % 128 + 128 : Nat) : Int) := by
  have e : (n : Int) % 256 = ((n % 256 : Nat) : Int) := by omega
  have e2 : (128 : Int) = ((128 : Nat) : Int) := rfl
  rw [e, e2, (bits_nat .u8 8 (by decide) wraps_u8 (n % 256) 128 (by have := Nat.mod_lt n (show 256 > 0 by decide); omega) (by decide)).2, or128_nat _ (by omega)]
  omega

theorem pow_64 : (2 : Int) ^ 64 = 18446744073709551616 := by decide
theorem wraps_u64 (n : Int) (h0 : 0 ≤ n) (h1 : n < 2 ^ 64) : IntKind.u64.wrap n = n := u64_id h0 (by rw [pow_64] at h1; exact h1)
theorem or_comm_u64 (x y : Int) : Go.bits .or .u64 x y = Go.bits .or .u64 y x := by simp [Go.bits, BitVec.or_comm]

theorem and_127 {c : Int} (h0 : 0 ≤ c) (h1 : c ≤ 255) : Go.bits .and .u8 c 127 = c % 128 :=
  bits_mask .u8 8 (by decide) wraps_u8 7 (by decide) c h0 (by omega)

theorem pow_63 : (2 : Int) ^ (7 * 9) = 9223372036854775808 := by decide
theorem pow_56 : (2 : Int) ^ (7 * 8) = 72057594037927936 := by decide
theorem pow_le_56 {i : Nat} (h : i ≤ 8) : (2 : Int) ^ (7 * i) ≤ 72057594037927936 := by
  have : (2 : Nat) ^ (7 * i) ≤ 2 ^ (7 * 8) := Nat.pow_le_pow_right (by decide) (by omega)
  have h2 : ((2 ^ (7 * i) : Nat) : Int) ≤ ((2 ^ (7 * 8) : Nat) : Int) := Int.ofNat_le.2 this
  simpa [Int.natCast_pow] using h2

/-- A part's place. -/
theorem part_lt {i : Nat} (hi : i ≤ 9) {c : Int} (h0 : 0 ≤ c) (h1 : c ≤ 127) (h9 : i = 9 → c ≤ 1) : 0 ≤ c * 2 ^ (7 * i) ∧ c * 2 ^ (7 * i) < 18446744073709551616 := by
  have hp := pow7_pos i
  refine ⟨Int.mul_nonneg h0 (Int.le_of_lt hp), ?_⟩
  by_cases h8 : i ≤ 8
  · have h2 := pow_le_56 h8
    have : c * 2 ^ (7 * i) ≤ 127 * 72057594037927936 := Int.mul_le_mul h1 h2 (Int.le_of_lt hp) (by decide)
    omega
  · have e : i = 9 := by omega
    subst e
    rw [pow_63]
    have := h9 rfl
    omega

theorem step_or {i : Nat} (hi : i ≤ 9) {acc c : Int} (ha0 : 0 ≤ acc) (ha : acc < 2 ^ (7 * i)) (h0 : 0 ≤ c) (h1 : c ≤ 255) (h9 : i = 9 → c ≤ 1) :
    Go.bits .or .u64 acc (IntKind.u64.wrap (IntKind.u64.wrap (Go.bits .and .u8 c 127) * 2 ^ min (wrap64 (7 * (i : Int))).toNat 64)) = acc + c % 128 * 2 ^ (7 * i) := by
  obtain ⟨q0, q1⟩ := part_lt hi (c := c % 128) (by omega) (by omega) (fun h => by have := h9 h; omega)
  have hp := pow7_pos i
  have e1 : IntKind.u64.wrap (c % 128) = c % 128 := u64_id (by omega) (by omega)
  rw [and_127 h0 h1, e1, w64_id (by omega) (by omega)]
  have e : min (7 * (i : Int)).toNat 64 = 7 * i := by omega
  rw [e, u64_id q0 q1, or_comm_u64]
  have hlt : acc < 18446744073709551616 := by
    by_cases h8 : i ≤ 8
    · have := pow_le_56 h8; omega
    · have e : i = 9 := by omega
      subst e
      rw [pow_63] at ha
      omega
  have h64 : (2 : Int) ^ 64 = 18446744073709551616 := by decide
  rw [bits_join .u64 64 (by decide) wraps_u64 (7 * i) (c % 128 * 2 ^ (7 * i)) acc q0 (Int.mul_emod_left _ _) (by rw [h64]; exact q1) ha0 ha (by rw [h64]; exact hlt)]
  omega

theorem step_lt {i : Nat} {acc c : Int} (ha0 : 0 ≤ acc) (ha : acc < 2 ^ (7 * i)) : 0 ≤ acc + c % 128 * 2 ^ (7 * i) ∧ acc + c % 128 * 2 ^ (7 * i) < 2 ^ (7 * (i + 1)) := by
  have hp := pow7_pos i
  have h2 : c % 128 * 2 ^ (7 * i) ≤ 127 * 2 ^ (7 * i) := Int.mul_le_mul_of_nonneg_right (by omega) (Int.le_of_lt hp)
  have h3 : 0 ≤ c % 128 * 2 ^ (7 * i) := Int.mul_nonneg (by omega) (Int.le_of_lt hp)
  rw [pow7]
  omega

/-! ### whole numbers -/
theorem ofInt_nat {x : Int} (h0 : 0 ≤ x) (h : x < 18446744073709551616) : (BitVec.ofInt 64 x).toNat = x.toNat := by
  rw [BitVec.toNat_ofInt, Int.emod_eq_of_lt h0 (by simpa using h)]
theorem xor_zero_u64 {x : Int} (h0 : 0 ≤ x) (h : x < 18446744073709551616) : Go.bits .xor .u64 x 0 = x := by
  show IntKind.u64.wrap ((BitVec.ofInt 64 x ^^^ BitVec.ofInt 64 0).toNat : Int) = x
  have e : BitVec.ofInt 64 0 = 0#64 := by decide
  rw [e, BitVec.xor_zero, ofInt_nat h0 h, Int.toNat_of_nonneg h0, u64_id h0 h]

theorem xor_ones_u64 {x : Int} (h0 : 0 ≤ x) (h : x < 18446744073709551616) : Go.bits .xor .u64 x 18446744073709551615 = 18446744073709551615 - x := by
  show IntKind.u64.wrap ((BitVec.ofInt 64 x ^^^ BitVec.ofInt 64 18446744073709551615).toNat : Int) = _
  have e : BitVec.ofInt 64 18446744073709551615 = BitVec.allOnes 64 := by decide
  rw [e, BitVec.xor_allOnes, BitVec.toNat_not, ofInt_nat h0 h, u64_id (by omega) (by omega)]
  omega

theorem zig_bits {a : Int} (h0 : -9223372036854775808 ≤ a) (h1 : a ≤ 9223372036854775807) :
    Go.bits .xor .u64 (IntKind.u64.wrap (wrap64 (a * 2))) (IntKind.u64.wrap (a / 9223372036854775808)) = (zig a : Int) := by
  unfold zig
  by_cases h : 0 ≤ a
  · rw [if_pos h]
    have e1 : a / 9223372036854775808 = 0 := by omega
    have e2 : IntKind.u64.wrap (wrap64 (a * 2)) = a * 2 := by rw [u64_mod]; unfold wrap64; omega
    rw [e1, e2, u64_id (by omega) (by omega), xor_zero_u64 (by omega) (by omega)]
    omega
  · rw [if_neg h]
    have e1 : a / 9223372036854775808 = -1 := by omega
    have e2 : IntKind.u64.wrap (wrap64 (a * 2)) = a * 2 + 18446744073709551616 := by rw [u64_mod]; unfold wrap64; omega
    have e3 : IntKind.u64.wrap (-1) = 18446744073709551615 := by rw [u64_mod]; decide
    rw [e1, e2, e3, xor_ones_u64 (by omega) (by omega)]
    omega

theorem and_one_u64 {x : Int} (h0 : 0 ≤ x) (h : x < 18446744073709551616) : Go.bits .and .u64 x 1 = x % 2 :=
  bits_mask .u64 64 (by decide) wraps_u64 1 (by decide) x h0 (by have : (2 : Int) ^ 64 = 18446744073709551616 := by decide
                                                                 omega)

theorem i64_w (n : Int) : IntKind.i64.wrap n = wrap64 n := by unfold wrap64; exact IntKind.wrap_i64 n
theorem xor_zero_i64 {x : Int} (h0 : 0 ≤ x) (h : x < 9223372036854775808) : Go.bits .xor .i64 x 0 = x := by
  show IntKind.i64.wrap ((BitVec.ofInt 64 x ^^^ BitVec.ofInt 64 0).toNat : Int) = x
  have e : BitVec.ofInt 64 0 = 0#64 := by decide
  rw [e, BitVec.xor_zero, ofInt_nat h0 (by omega), Int.toNat_of_nonneg h0, i64_w, w64_id (by omega) (by omega)]
theorem xor_ones_i64 {x : Int} (h0 : 0 ≤ x) (h : x < 9223372036854775808) : Go.bits .xor .i64 x (-1) = -x - 1 := by
  show IntKind.i64.wrap ((BitVec.ofInt 64 x ^^^ BitVec.ofInt 64 (-1)).toNat : Int) = _
  have e : BitVec.ofInt 64 (-1) = BitVec.allOnes 64 := by decide
  rw [e, BitVec.xor_allOnes, BitVec.toNat_not, ofInt_nat h0 (by omega), i64_w]
  unfold wrap64
  omega

theorem zag_bits {m : Int} (h0 : 0 ≤ m) (h1 : m < 18446744073709551616) :
    Go.bits .xor .i64 (wrap64 (m / 2)) (wrap64 (-(wrap64 (Go.bits .and .u64 m 1)))) = zag m := by
  rw [and_one_u64 h0 h1, w64_id (by omega) (by omega)]
  unfold zag
  by_cases h : m % 2 = 0
  · rw [if_pos h, h]
    have : wrap64 (-wrap64 0) = 0 := by unfold wrap64; decide
    rw [this, xor_zero_i64 (by omega) (by omega)]
  · have e : m % 2 = 1 := by omega
    rw [if_neg h, e]
    have : wrap64 (-wrap64 1) = -1 := by unfold wrap64; decide
    rw [this, xor_ones_i64 (by omega) (by omega)]

/-! ### lists of bytes and their strings -/
def Bs (xs : List Int) : Prop := ∀ x ∈ xs, 0 ≤ x ∧ x ≤ 255
theorem vput_bs (n : Nat) : Bs (vput n) := fun _ h => vput_byte h
theorem Bs.take {xs : List Int} (h : Bs xs) (n : Nat) : Bs (xs.take n) := fun x hx => h x (List.mem_of_mem_take hx)
theorem Bs.drop {xs : List Int} (h : Bs xs) (n : Nat) : Bs (xs.drop n) := fun x hx => h x (List.mem_of_mem_drop hx)
theorem Bs.append {xs ys : List Int} (h : Bs xs) (k : Bs ys) : Bs (xs ++ ys) := fun x hx => by
  rcases List.mem_append.1 hx with hx | hx
  · exact h x hx
  · exact k x hx
theorem bs_wf {xs : List Int} (h : ∀ x ∈ xs, (Lit.int .u8 x).wf = true) : Bs xs := fun x hx => bounds_u8 (h x hx)

theorem byte_inj {x y : Int} (hx : 0 ≤ x ∧ x ≤ 255) (hy : 0 ≤ y ∧ y ≤ 255) (h : UInt8.ofNat x.toNat = UInt8.ofNat y.toNat) : x = y := by
  have e := congrArg UInt8.toNat h
  simp only [UInt8.toNat_ofNat'] at e
  omega

theorem bytesOf_inj : ∀ {xs ys : List Int}, Bs xs → Bs ys → Lib.bytesOf xs = Lib.bytesOf ys → xs = ys
  | [], [], _, _, _ => rfl
  | [], _ :: _, _, _, h => by simp [Lib.bytesOf] at h
  | _ :: _, [], _, _, h => by simp [Lib.bytesOf] at h
  | x :: xs, y :: ys, hx, hy, h => by
    simp only [Lib.bytesOf, List.map_cons, List.cons.injEq] at h
    rw [byte_inj (hx x (by simp)) (hy y (by simp)) h.1, bytesOf_inj (fun a ha => hx a (by simp [ha])) (fun a ha => hy a (by simp [ha])) h.2]

theorem str_eq {xs ys : List Int} (hx : Bs xs) (hy : Bs ys) : (strOfNums xs).toList = (strOfNums ys).toList ↔ xs = ys := by
  rw [Lib.strOfNums_toList, Lib.strOfNums_toList]
  exact ⟨bytesOf_inj hx hy, fun h => by rw [h]⟩

theorem vput_300 : vput 300 = [172, 2] := by rw [vput_big (by decide), vput_small (by decide)]; rfl
theorem vput_1 : vput 1 = [1] := vput_small (by decide)
theorem vget_ex : vget [172, 2, 9] = (300, 2, 0) := by decide
theorem str_ex2 : (strOfNums [172, 2]).toList = ([172, 2] : List UInt8) := by rw [Lib.strOfNums_toList]; decide
theorem str_ex1 : (strOfNums [1]).toList = ([1] : List UInt8) := by rw [Lib.strOfNums_toList]; decide
end Go.Proofs.Ytnlibeaainbipaa.V

/- A number's bytes as a chain: all but the last are 128 at least. What the reading says of a chain. Conditions: none. -/
namespace Go.Proofs.Ytnlibeaainbipaa.V
open Go.RowKit

/-- The number that a chain says. -/
def val : List Int → Nat
  | [] => 0
  | c :: r => (c % 128).toNat + 128 * val r
def Chain : List Int → Prop
  | [] => False
  | [c] => 0 ≤ c ∧ c < 128
  | c :: d :: r => 128 ≤ c ∧ c ≤ 255 ∧ Chain (d :: r)
def lastZ : List Int → Bool
  | [] => false
  | [c] => c == 0
  | _ :: d :: r => lastZ (d :: r)
def last1 : List Int → Prop
  | [] => True
  | [c] => c ≤ 1
  | _ :: d :: r => last1 (d :: r)
def High (t : List Int) : Prop := ∀ x ∈ t, 128 ≤ x ∧ x ≤ 255

theorem vput_chain : ∀ {t : List Int}, Chain t → (vput (val t) = t ↔ ¬ (lastZ t = true ∧ 1 < t.length))
  | [], h => h.elim
  | [c], h => by
    obtain ⟨h0, h1⟩ := h
    have e : val [c] = c.toNat := by simp only [val]; omega
    rw [e, vput_small (by omega)]
    simp; omega
  | c :: d :: r, h => by
    obtain ⟨h0, h1, h2⟩ := h
    have ih := vput_chain h2
    have hz : lastZ (c :: d :: r) = lastZ (d :: r) := rfl
    have hv : val (c :: d :: r) = (c % 128).toNat + 128 * val (d :: r) := rfl
    rw [hz, hv]
    by_cases h : val (d :: r) = 0
    · rw [h, vput_small (by omega)]
      have : lastZ (d :: r) = true := by
        cases r with
        | nil =>
          obtain ⟨q0, q1⟩ := h2
          simp only [val] at h
          simp only [lastZ, beq_iff_eq]
          omega
        | cons e r =>
          cases hx : lastZ (d :: e :: r) with
          | true => rfl
          | false =>
            rw [hx] at ih
            have := ih.2 (by simp)
            rw [h, vput_small (by omega)] at this
            simp at this
      simp [this]
    · rw [vput_big (by omega)]
      have e1 : ((c % 128).toNat + 128 * val (d :: r)) / 128 = val (d :: r) := by omega
      have e2 : ((((c % 128).toNat + 128 * val (d :: r)) % 128 + 128 : Nat) : Int) = c := by omega
      rw [e1, e2]
      simp only [List.cons.injEq, true_and]
      rw [ih]
      cases r with
      | nil =>
        obtain ⟨q0, q1⟩ := h2
        have : lastZ [d] = false := by
          simp only [lastZ, beq_eq_false_iff_ne]
          simp only [val] at h
          omega
        simp [this]
      | cons e r => simp

theorem vgetFrom_chain : ∀ (t : List Int) (i : Nat) (acc : Int) (rest : List Int), Chain t → i + t.length ≤ 10 → (i + t.length = 10 → last1 t) →
    vgetFrom i acc (t ++ rest) = if lastZ t = true ∧ 1 < i + t.length then (0, 0, 41) else (acc + val t * 2 ^ (7 * i), (i : Int) + t.length, 0)
  | [], _, _, _, h, _, _ => h.elim
  | [c], i, acc, rest, h, hl, h9 => by
    obtain ⟨h0, h1⟩ := h
    have h9' : ¬ (i = 9 ∧ 1 < c) := fun ⟨e, hx⟩ => by
      have : c ≤ 1 := h9 (by simp [e])
      omega
    simp only [List.cons_append, List.nil_append, vgetFrom, lastZ, beq_iff_eq, List.length_cons, List.length_nil, val]
    rw [if_neg h9', if_pos h1]
    by_cases hz : c = 0 ∧ 0 < i
    · rw [if_pos hz, if_pos (by omega)]
    · rw [if_neg hz, if_neg (by omega)]
      have : (((c % 128).toNat + 128 * 0 : Nat) : Int) = c := by omega
      rw [this]
      rfl
  | c :: d :: r, i, acc, rest, h, hl, h9 => by
    obtain ⟨h0, h1, h2⟩ := h
    simp only [List.length_cons] at hl
    have ih := vgetFrom_chain (d :: r) (i + 1) (acc + (c - 128) * 2 ^ (7 * i)) rest h2 (by simp only [List.length_cons]; omega) (fun e => h9 (by simp only [List.length_cons] at e ⊢; omega))
    have hstep : vgetFrom i acc (c :: d :: r ++ rest) = vgetFrom (i + 1) (acc + (c - 128) * 2 ^ (7 * i)) (d :: r ++ rest) := by
      simp only [List.cons_append, vgetFrom]
      rw [if_neg (by omega), if_neg (by omega)]
    rw [hstep, ih]
    have hz : lastZ (c :: d :: r) = lastZ (d :: r) := rfl
    have hv : val (c :: d :: r) = (c % 128).toNat + 128 * val (d :: r) := rfl
    rw [hz, hv]
    simp only [List.length_cons]
    by_cases hc : lastZ (d :: r) = true
    · rw [if_pos ⟨hc, by omega⟩, if_pos ⟨hc, by omega⟩]
    · rw [if_neg (fun q => hc q.1), if_neg (fun q => hc q.1), pow7]
      have e : (((c % 128).toNat + 128 * val (d :: r) : Nat) : Int) = (c - 128) + val (d :: r) * 128 := by omega
      rw [e, Int.add_mul, Int.mul_assoc (val (d :: r) : Int), Int.mul_comm 128]
      simp only [Prod.mk.injEq, and_true]
      constructor <;> omega

theorem vget_chain {t : List Int} (h : Chain t) (hl : t.length ≤ 10) (h1 : t.length = 10 → last1 t) (rest : List Int) : vget (t ++ rest) = if vput (val t) = t then ((val t : Int), (t.length : Int), 0) else (0, 0, 41) := by
  unfold vget
  rw [vgetFrom_chain t 0 0 rest h (by omega) (by simpa using h1)]
  have := vput_chain h
  by_cases hc : lastZ t = true ∧ 1 < t.length
  · rw [if_pos (by simpa using hc), if_neg (fun q => this.1 q hc)]
  · rw [if_neg (by simpa using hc), if_pos (this.2 hc)]
    simp

theorem vgetFrom_high : ∀ (t : List Int) (i : Nat) (acc : Int) (rest : List Int), High t → i + t.length = 10 → 0 < t.length → vgetFrom i acc (t ++ rest) = (0, 0, 41)
  | [], _, _, _, _, _, h => absurd h (by simp)
  | c :: r, i, acc, rest, h, hl, _ => by
    obtain ⟨h0, h1⟩ := h c (by simp)
    simp only [List.cons_append, vgetFrom]
    by_cases h9 : i = 9
    · rw [if_pos ⟨h9, by omega⟩]
    · simp only [List.length_cons] at hl
      rw [if_neg (fun q => h9 q.1), if_neg (by omega)]
      exact vgetFrom_high r (i + 1) _ rest (fun x hx => h x (by simp [hx])) (by omega) (by omega)
theorem vgetFrom_nine : ∀ (t : List Int) (i : Nat) (acc : Int) (d : Int) (rest : List Int), High t → i + t.length = 9 → 1 < d → vgetFrom i acc (t ++ d :: rest) = (0, 0, 41)
  | [], i, acc, d, rest, _, hl, hd => by
    simp only [List.nil_append, vgetFrom]
    rw [if_pos ⟨by simpa using hl, hd⟩]
  | c :: r, i, acc, d, rest, h, hl, hd => by
    obtain ⟨h0, h1⟩ := h c (by simp)
    simp only [List.length_cons] at hl
    simp only [List.cons_append, vgetFrom]
    rw [if_neg (by omega), if_neg (by omega)]
    exact vgetFrom_nine r (i + 1) _ d rest (fun x hx => h x (by simp [hx])) (by omega) hd
theorem vgetFrom_short : ∀ (t : List Int) (i : Nat) (acc : Int), High t → i + t.length ≤ 9 → vgetFrom i acc t = (0, 0, 40)
  | [], _, _, _, _ => rfl
  | c :: r, i, acc, h, hl => by
    obtain ⟨h0, h1⟩ := h c (by simp)
    simp only [List.length_cons] at hl
    simp only [vgetFrom]
    rw [if_neg (by omega), if_neg (by omega)]
    exact vgetFrom_short r (i + 1) _ (fun x hx => h x (by simp [hx])) (by omega)

theorem chain_of : ∀ {t : List Int} {d : Int}, High t → 0 ≤ d → d < 128 → Chain (t ++ [d])
  | [], d, _, h0, h1 => ⟨h0, h1⟩
  | [c], d, h, h0, h1 => ⟨(h c (by simp)).1, (h c (by simp)).2, h0, h1⟩
  | c :: e :: r, d, h, h0, h1 => ⟨(h c (by simp)).1, (h c (by simp)).2, chain_of (t := e :: r) (fun x hx => h x (List.mem_cons_of_mem _ hx)) h0 h1⟩
theorem last1_of : ∀ {t : List Int} {d : Int}, d ≤ 1 → last1 (t ++ [d])
  | [], _, h => h
  | [_], _, h => h
  | _ :: e :: r, _, h => last1_of (t := e :: r) h

theorem val_lt : ∀ (t : List Int), val t < 128 ^ t.length
  | [] => by simp [val]
  | c :: r => by
    have := val_lt r
    simp only [val, List.length_cons, Nat.pow_succ]
    omega
theorem val_lt1 : ∀ {t : List Int}, Chain t → last1 t → val t < 2 * 128 ^ (t.length - 1)
  | [], h, _ => h.elim
  | [c], h, h1 => by
    obtain ⟨h0, _⟩ := h
    have h1 : c ≤ 1 := h1
    simp only [val, List.length_cons, List.length_nil]
    omega
  | c :: d :: r, h, h1 => by
    obtain ⟨_, _, h2⟩ := h
    have := val_lt1 h2 h1
    have e : (c :: d :: r).length - 1 = ((d :: r).length - 1) + 1 := by simp
    rw [e, Nat.pow_succ]
    simp only [val] at this ⊢
    omega
/-- A chain's number is one of 64 bits, where the tenth byte is 1 at most. -/
theorem val_u64 {t : List Int} (hl : t.length ≤ 10) (h1 : t.length = 10 → last1 t) (h : Chain t) : val t < 18446744073709551616 := by
  by_cases h10 : t.length = 10
  · have := val_lt1 h (h1 h10)
    rw [h10] at this
    exact this
  · have := val_lt t
    have h2 : 128 ^ t.length ≤ 128 ^ 9 := Nat.pow_le_pow_right (by decide) (by omega)
    have : (128 : Nat) ^ 9 < 18446744073709551616 := by decide
    omega
end Go.Proofs.Ytnlibeaainbipaa.V

/- Data as bytes, in plain lists: what is written is read back, what is read was written so, what is cut off is refused. Conditions: none beyond those that each names. -/
namespace Go.Proofs.Ytnlibeaainbipaa.V
open Go.RowKit

/-! ### a reader: what is left, the first error's number -/
structure RS where
  b : List Int
  why : Int
theorem RS.eta (s : RS) : (⟨s.b, s.why⟩ : RS) = s := rfl
def rnum (most : Int) (s : RS) : Int × RS :=
  if s.why = 0 then
    if (vget s.b).2.2 = 0 then
      if most < (vget s.b).1 then (0, ⟨s.b, 62⟩) else ((vget s.b).1, ⟨s.b.drop (vget s.b).2.1.toNat, 0⟩)
    else (0, ⟨s.b, (vget s.b).2.2⟩)
  else (0, s)
def rwhole (low high : Int) (s : RS) : Int × RS :=
  if s.why = 0 then
    if (vget s.b).2.2 = 0 then
      if zag (vget s.b).1 < low ∨ high < zag (vget s.b).1 then (0, ⟨s.b, 62⟩) else (zag (vget s.b).1, ⟨s.b.drop (vget s.b).2.1.toNat, 0⟩)
    else (0, ⟨s.b, (vget s.b).2.2⟩)
  else (0, s)
def rcut (s : RS) : List Int × RS :=
  if ((rnum 4096 s).2.b.length : Int) < (rnum 4096 s).1 then ([], ⟨(rnum 4096 s).2.b, if (rnum 4096 s).2.why = 0 then 40 else (rnum 4096 s).2.why⟩)
  else ((rnum 4096 s).2.b.take (rnum 4096 s).1.toNat, ⟨(rnum 4096 s).2.b.drop (rnum 4096 s).1.toNat, (rnum 4096 s).2.why⟩)
def rmany {α : Type} (rd : RS → α × RS) : Nat → RS → List α × RS
  | 0, s => ([], s)
  | n + 1, s => if s.why = 0 then ((rd s).1 :: (rmany rd n (rd s).2).1, (rmany rd n (rd s).2).2) else ([], s)
def rlist {α : Type} (rd : RS → α × RS) (s : RS) : List α × RS := rmany rd (rnum 128 s).1.toNat (rnum 128 s).2
def rend (s : RS) : RS := if s.b ≠ [] ∧ s.why = 0 then ⟨s.b, 60⟩ else s

/-- How a kind of data is written and read. -/
structure Codec (α : Type) where
  rd : RS → α × RS
  wr : α → List Int
  ok : α → Prop
  bs : ∀ x, ok x → Bs (wr x)
  back : ∀ x rest, ok x → rd ⟨wr x ++ rest, 0⟩ = (x, ⟨rest, 0⟩)
  was : ∀ b, Bs b → (rd ⟨b, 0⟩).2.why = 0 → ok (rd ⟨b, 0⟩).1 ∧ b = wr (rd ⟨b, 0⟩).1 ++ (rd ⟨b, 0⟩).2.b
  cut : ∀ x j, ok x → j < (wr x).length → (rd ⟨(wr x).take j, 0⟩).2.why = 40
  stay : ∀ s, s.why ≠ 0 → (rd s).2 = s

theorem Codec.rest {α : Type} (c : Codec α) {b : List Int} (hb : Bs b) (h : (c.rd ⟨b, 0⟩).2.why = 0) : Bs (c.rd ⟨b, 0⟩).2.b := by
  obtain ⟨_, e⟩ := c.was b hb h
  intro x hx
  refine hb x ?_
  rw [e]
  exact List.mem_append_right _ hx
theorem Codec.zero {α : Type} (c : Codec α) (s : RS) (h : (c.rd s).2.why = 0) : s.why = 0 := by
  by_cases hs : s.why = 0
  · exact hs
  · rw [c.stay s hs] at h; exact h
theorem at_zero {s : RS} (h : s.why = 0) : s = ⟨s.b, 0⟩ := by
  cases s
  simp only at h
  subst h; rfl

def cnum (most : Int) (hm : most < 18446744073709551616) : Codec Int where
  rd := rnum most
  wr x := vput x.toNat
  ok x := 0 ≤ x ∧ x ≤ most
  bs x _ := vput_bs _
  back x rest h := by
    obtain ⟨n, rfl⟩ := Int.eq_ofNat_of_zero_le h.1
    have hn : n < 18446744073709551616 := by omega
    simp only [rnum, Int.toNat_natCast, vget_put hn rest, if_true]
    rw [if_neg (by omega)]
    simp
  was b hb h := by
    simp only [rnum, if_true] at h ⊢
    by_cases he : (vget b).2.2 = 0
    · rw [if_pos he] at h ⊢
      obtain ⟨n, hn, rest, rfl⟩ := vget_ok hb he
      rw [vget_put hn] at h ⊢
      simp only at h ⊢
      by_cases hm : most < (n : Int)
      · rw [if_pos hm] at h; simp at h
      · rw [if_neg hm]
        simp; omega
    · rw [if_neg he] at h
      exact absurd h he
  cut x j h hj := by
    obtain ⟨n, rfl⟩ := Int.eq_ofNat_of_zero_le h.1
    rw [Int.toNat_natCast] at hj ⊢
    simp [rnum, vget_cut (by omega : n < 18446744073709551616) hj]
  stay s hs := by simp [rnum, hs]

theorem zig_zag {n : Nat} : zig (zag (n : Int)) = n := by unfold zig zag; split <;> (split <;> omega)
def cwhole (low high : Int) (h0 : -9223372036854775808 ≤ low) (h1 : high ≤ 9223372036854775807) : Codec Int where
  rd := rwhole low high
  wr x := vput (zig x)
  ok x := low ≤ x ∧ x ≤ high
  bs x _ := vput_bs _
  back x rest h := by
    have hn : zig x < 18446744073709551616 := zig_lt (by omega) (by omega)
    simp only [rwhole, vget_put hn rest, if_true, zag_zig]
    rw [if_neg (by omega)]
    simp
  was b hb h := by
    simp only [rwhole, if_true] at h ⊢
    by_cases he : (vget b).2.2 = 0
    · rw [if_pos he] at h ⊢
      obtain ⟨n, hn, rest, rfl⟩ := vget_ok hb he
      rw [vget_put hn] at h ⊢
      simp only at h ⊢
      by_cases hm : zag (n : Int) < low ∨ high < zag (n : Int)
      · rw [if_pos hm] at h; simp at h
      · rw [if_neg hm]
        simp [zig_zag]; omega
    · rw [if_neg he] at h
      exact absurd h he
  cut x j h hj := by
    have hn : zig x < 18446744073709551616 := zig_lt (by omega) (by omega)
    simp [rwhole, vget_cut hn hj]
  stay s hs := by simp [rwhole, hs]

def cmap {α β : Type} (c : Codec α) (f : α → β) (g : β → α) (hgf : ∀ a, c.ok a → g (f a) = a) : Codec β where
  rd s := (f (c.rd s).1, (c.rd s).2)
  wr y := c.wr (g y)
  ok y := c.ok (g y) ∧ f (g y) = y
  bs y h := c.bs _ h.1
  back y rest h := by rw [c.back _ _ h.1, h.2]
  was b hb h := by
    obtain ⟨h1, h2⟩ := c.was b hb h
    have e := hgf _ h1
    exact ⟨⟨by rw [e]; exact h1, by rw [e]⟩, by rw [e]; exact h2⟩
  cut y j h hj := c.cut _ j h.1 hj
  stay s hs := c.stay s hs

/-- One behind the other; how the second is read hangs on the first. -/
def cdep {α β : Type} (c : Codec α) (d : α → Codec β) : Codec (α × β) where
  rd s := (((c.rd s).1, ((d (c.rd s).1).rd (c.rd s).2).1), ((d (c.rd s).1).rd (c.rd s).2).2)
  wr x := c.wr x.1 ++ (d x.1).wr x.2
  ok x := c.ok x.1 ∧ (d x.1).ok x.2
  bs x h := (c.bs _ h.1).append ((d x.1).bs _ h.2)
  back x rest h := by
    simp only [List.append_assoc]
    rw [c.back _ _ h.1]
    simp only
    rw [(d x.1).back _ _ h.2]
  was b hb h := by
    simp only at h ⊢
    have h1 := (d _).zero _ h
    have hr := c.rest hb h1
    obtain ⟨k1, k2⟩ := c.was b hb h1
    have e := at_zero h1
    rw [e] at h ⊢
    obtain ⟨l1, l2⟩ := (d (c.rd ⟨b, 0⟩).1).was _ hr h
    exact ⟨⟨k1, l1⟩, by rw [List.append_assoc, ← l2]; exact k2⟩
  cut x j h hj := by
    simp only [List.length_append] at hj ⊢
    by_cases hlt : j < (c.wr x.1).length
    · rw [List.take_append_of_le_length (by omega)]
      have := c.cut _ j h.1 hlt
      rw [(d _).stay _ (by rw [this]; decide), this]
    · rw [List.take_append, List.take_of_length_le (by omega)]
      rw [c.back _ _ h.1]
      exact (d x.1).cut _ _ h.2 (by omega)
  stay s hs := by
    have := c.stay s hs
    rw [(d _).stay _ (by rw [this]; exact hs), this]

theorem many_stay {α : Type} {rd : RS → α × RS} {s : RS} (hs : s.why ≠ 0) : ∀ n, rmany rd n s = ([], s)
  | 0 => rfl
  | n + 1 => by rw [rmany, if_neg hs]
theorem many_back {α : Type} (c : Codec α) (rest : List Int) : ∀ (l : List α), (∀ x ∈ l, c.ok x) → rmany c.rd l.length ⟨l.flatMap c.wr ++ rest, 0⟩ = (l, ⟨rest, 0⟩)
  | [], _ => rfl
  | x :: l, h => by
    simp only [List.length_cons, rmany, List.flatMap_cons, List.append_assoc, if_true]
    rw [c.back _ _ (h x (by simp))]
    simp only
    rw [many_back c rest l (fun y hy => h y (by simp [hy]))]
theorem many_was {α : Type} (c : Codec α) : ∀ (n : Nat) (b : List Int), Bs b → (rmany c.rd n ⟨b, 0⟩).2.why = 0 →
    (rmany c.rd n ⟨b, 0⟩).1.length = n ∧ (∀ x ∈ (rmany c.rd n ⟨b, 0⟩).1, c.ok x) ∧ b = (rmany c.rd n ⟨b, 0⟩).1.flatMap c.wr ++ (rmany c.rd n ⟨b, 0⟩).2.b
  | 0, b, _, _ => ⟨rfl, fun x hx => by simp [rmany] at hx, rfl⟩
  | n + 1, b, hb, h => by
    simp only [rmany, if_true] at h ⊢
    have h1 : (c.rd ⟨b, 0⟩).2.why = 0 := by
      by_cases hz : (c.rd ⟨b, 0⟩).2.why = 0
      · exact hz
      · rw [many_stay hz] at h; exact h
    obtain ⟨k1, k2⟩ := c.was b hb h1
    have hr := c.rest hb h1
    have e := at_zero h1
    rw [e] at h ⊢
    obtain ⟨l1, l2, l3⟩ := many_was c n _ hr h
    refine ⟨by simp [l1], fun x hx => ?_, ?_⟩
    · rcases List.mem_cons.1 hx with rfl | hx
      · exact k1
      · exact l2 x hx
    · rw [List.flatMap_cons, List.append_assoc, ← l3]; exact k2
theorem many_cut {α : Type} (c : Codec α) : ∀ (l : List α) (j : Nat), (∀ x ∈ l, c.ok x) → j < (l.flatMap c.wr).length → (rmany c.rd l.length ⟨(l.flatMap c.wr).take j, 0⟩).2.why = 40
  | [], j, _, h => by simp at h
  | x :: l, j, h, hj => by
    simp only [List.length_cons, rmany, List.flatMap_cons, if_true, List.length_append] at hj ⊢
    by_cases hlt : j < (c.wr x).length
    · rw [List.take_append_of_le_length (by omega)]
      have := c.cut _ j (h x (by simp)) hlt
      rw [many_stay (by rw [this]; decide), this]
    · rw [List.take_append, List.take_of_length_le (by omega)]
      rw [c.back _ _ (h x (by simp))]
      exact many_cut c l _ (fun y hy => h y (by simp [hy])) (by omega)

def clist {α : Type} (c : Codec α) : Codec (List α) where
  rd := rlist c.rd
  wr l := vput l.length ++ l.flatMap c.wr
  ok l := l.length ≤ 128 ∧ ∀ x ∈ l, c.ok x
  bs l h := (vput_bs _).append fun v hv => by
    obtain ⟨x, hx, hv⟩ := List.mem_flatMap.1 hv
    exact c.bs x (h.2 x hx) v hv
  back l rest h := by
    have := (cnum 128 (by decide)).back (l.length : Int) (l.flatMap c.wr ++ rest) ⟨by omega, by omega⟩
    simp only [cnum, Int.toNat_natCast] at this
    unfold rlist
    rw [List.append_assoc, this]
    simp only [Int.toNat_natCast]
    exact many_back c rest l h.2
  was b hb h := by
    unfold rlist at h ⊢
    have h1 : (rnum 128 ⟨b, 0⟩).2.why = 0 := by
      by_cases hz : (rnum 128 ⟨b, 0⟩).2.why = 0
      · exact hz
      · rw [many_stay hz] at h; exact h
    obtain ⟨k1, k2⟩ := (cnum 128 (by decide)).was b hb h1
    have hr := (cnum 128 (by decide)).rest hb h1
    simp only [cnum] at k1 k2 hr
    have e := at_zero h1
    rw [e] at h ⊢
    obtain ⟨l1, l2, l3⟩ := many_was c _ _ hr h
    refine ⟨⟨by rw [l1]; omega, l2⟩, ?_⟩
    rw [l1, List.append_assoc, ← l3]
    exact k2
  cut l j h hj := by
    have hok : (cnum 128 (by decide)).ok (l.length : Int) := ⟨by omega, by omega⟩
    simp only [List.length_append] at hj
    unfold rlist
    by_cases hlt : j < (vput l.length).length
    · rw [List.take_append_of_le_length (by omega)]
      have := (cnum 128 (by decide)).cut (l.length : Int) j hok (by simpa [cnum] using hlt)
      simp only [cnum, Int.toNat_natCast] at this
      rw [many_stay (by rw [this]; decide), this]
    · rw [List.take_append, List.take_of_length_le (by omega)]
      have := (cnum 128 (by decide)).back (l.length : Int) ((l.flatMap c.wr).take (j - (vput l.length).length)) hok
      simp only [cnum, Int.toNat_natCast] at this
      rw [this]
      simp only [Int.toNat_natCast]
      exact many_cut c l _ h.2 (by omega)
  stay s hs := by
    unfold rlist
    have := (cnum 128 (by decide)).stay s hs
    simp only [cnum] at this
    rw [this, many_stay hs]

def cbytes : Codec (List Int) where
  rd := rcut
  wr l := vput l.length ++ l
  ok l := l.length ≤ 4096 ∧ Bs l
  bs l h := (vput_bs _).append h.2
  back l rest h := by
    have := (cnum 4096 (by decide)).back (l.length : Int) (l ++ rest) ⟨by omega, by omega⟩
    simp only [cnum, Int.toNat_natCast] at this
    unfold rcut
    rw [List.append_assoc, this]
    simp only [Int.toNat_natCast, List.length_append]
    rw [if_neg (by omega)]
    simp
  was b hb h := by
    unfold rcut at h ⊢
    by_cases hl : ((rnum 4096 ⟨b, 0⟩).2.b.length : Int) < (rnum 4096 ⟨b, 0⟩).1
    · rw [if_pos hl] at h
      simp only at h
      split at h
      · cases h
      · rename_i hz; exact absurd h hz
    · rw [if_neg hl] at h ⊢
      simp only at h ⊢
      obtain ⟨k1, k2⟩ := (cnum 4096 (by decide)).was b hb h
      have hr := (cnum 4096 (by decide)).rest hb h
      simp only [cnum] at k1 k2 hr
      have hlen : ((rnum 4096 ⟨b, 0⟩).2.b.take (rnum 4096 ⟨b, 0⟩).1.toNat).length = (rnum 4096 ⟨b, 0⟩).1.toNat := by rw [List.length_take]; omega
      refine ⟨⟨by rw [hlen]; omega, hr.take _⟩, ?_⟩
      rw [hlen, List.append_assoc, List.take_append_drop]
      exact k2
  cut l j h hj := by
    have hok : (cnum 4096 (by decide)).ok (l.length : Int) := ⟨by omega, by omega⟩
    simp only [List.length_append] at hj
    unfold rcut
    by_cases hlt : j < (vput l.length).length
    · rw [List.take_append_of_le_length (by omega)]
      have h1 := (cnum 4096 (by decide)).cut (l.length : Int) j hok (by simpa [cnum] using hlt)
      simp only [cnum, Int.toNat_natCast] at h1
      rw [h1]
      split <;> simp
    · rw [List.take_append, List.take_of_length_le (by omega)]
      have := (cnum 4096 (by decide)).back (l.length : Int) (l.take (j - (vput l.length).length)) hok
      simp only [cnum, Int.toNat_natCast] at this
      rw [this]
      simp only [List.length_take]
      rw [if_pos (by omega)]
      rfl
  stay s hs := by
    have := (cnum 4096 (by decide)).stay s hs
    have h0 : (rnum 4096 s).1 = 0 := by simp [rnum, hs]
    simp only [cnum] at this
    unfold rcut
    rw [this, h0, if_neg (by omega)]
    rfl

/-! ### texts -/
def nums (s : ByteArray) : List Int := s.data.toList.map fun x => (x.toNat : Int)
theorem nums_len (s : ByteArray) : (nums s).length = s.size := by
  unfold nums
  rw [List.length_map, Array.length_toList]; rfl
theorem nums_bs (s : ByteArray) : Bs (nums s) := by
  intro x hx
  obtain ⟨u, _, rfl⟩ := List.mem_map.1 hx
  have := u.toNat_lt
  omega
theorem str_nums (s : ByteArray) : strOfNums (nums s) = s := by
  have : (strOfNums (nums s)).data = s.data := by
    apply Array.ext'
    rw [strOfNums_data]
    unfold nums
    rw [List.map_map]
    conv => rhs; rw [← List.map_id s.data.toList]
    apply List.map_congr_left
    intro u _
    simp
  cases s
  cases h : strOfNums _
  rw [h] at this
  cases this; rfl
theorem nums_str {l : List Int} (h : Bs l) : nums (strOfNums l) = l := by
  unfold nums
  rw [strOfNums_data, List.map_map]
  conv => rhs; rw [← List.map_id l]
  apply List.map_congr_left
  intro x hx
  obtain ⟨h0, h1⟩ := h x hx
  simp only [Function.comp, id]
  rw [UInt8.toNat_ofNat']
  omega
theorem str_inj {a b : ByteArray} (h : nums a = nums b) : a = b := by rw [← str_nums a, ← str_nums b, h]
def rtext (s : RS) : ByteArray × RS := (strOfNums (rcut s).1, (rcut s).2)
def ctext : Codec ByteArray := cmap cbytes strOfNums nums fun _ h => nums_str h.2
theorem ctext_rd : ctext.rd = rtext := rfl
theorem ctext_wr (s : ByteArray) : ctext.wr s = vput s.size ++ nums s := by show vput (nums s).length ++ _ = _; rw [nums_len]
theorem ctext_ok (s : ByteArray) : ctext.ok s ↔ s.size ≤ 4096 := by
  show ((nums s).length ≤ 4096 ∧ Bs (nums s)) ∧ strOfNums (nums s) = s ↔ _
  rw [nums_len]
  exact ⟨fun h => h.1.1, fun h => ⟨⟨h, nums_bs s⟩, str_nums s⟩⟩

/-! ### items, changes, hits -/
structure MItem where
  id : Int
  vec : List Int
  tags : List ByteArray
structure MChange where
  gone : Bool
  item : MItem
structure MHit where
  dist : Int
  id : Int
def u32m : Int := 4294967295
def cu32 : Codec Int := cnum 4294967295 (by decide)
def ci32 : Codec Int := cwhole (-2147483648) 2147483647 (by decide) (by decide)
def ci64 : Codec Int := cwhole (-9223372036854775808) 9223372036854775807 (by decide) (by decide)
def rflag (s : RS) : Bool × RS := ((rnum 1 s).1 == 1, (rnum 1 s).2)
def cflag : Codec Bool := cmap (cnum 1 (by decide)) (· == 1) (fun b => if b = true then 1 else 0) fun a h => by
  have h : 0 ≤ a ∧ a ≤ 1 := h
  by_cases e : a = 1
  · subst e; rfl
  · have : a = 0 := by omega
    subst this; rfl
theorem cflag_ok (b : Bool) : cflag.ok b := by cases b <;> exact ⟨⟨by decide, by decide⟩, rfl⟩
def rvec (s : RS) : List Int × RS := rlist (rwhole (-2147483648) 2147483647) s
def rtexts (s : RS) : List ByteArray × RS := rlist rtext s
def cvec : Codec (List Int) := clist ci32
def ctexts : Codec (List ByteArray) := clist ctext
def ritem (s : RS) : MItem × RS := (⟨(rnum 4294967295 s).1, (rvec (rnum 4294967295 s).2).1, (rtexts (rvec (rnum 4294967295 s).2).2).1⟩, (rtexts (rvec (rnum 4294967295 s).2).2).2)
def citem : Codec MItem := cmap (cdep cu32 fun _ => cdep cvec fun _ => ctexts) (fun x => ⟨x.1, x.2.1, x.2.2⟩) (fun x => (x.id, x.vec, x.tags)) fun _ _ => rfl
theorem citem_rd : citem.rd = ritem := rfl
def rchange (s : RS) : MChange × RS :=
  if (rflag s).1 = true then (⟨true, ⟨(rnum 4294967295 (rflag s).2).1, [], []⟩⟩, (rnum 4294967295 (rflag s).2).2) else (⟨false, (ritem (rflag s).2).1⟩, (ritem (rflag s).2).2)
def cgone : Codec MItem := cmap cu32 (fun i => ⟨i, [], []⟩) (fun x => x.id) fun _ _ => rfl
def cchange : Codec MChange := cmap (cdep cflag fun b => if b = true then cgone else citem) (fun x => ⟨x.1, x.2⟩) (fun x => (x.gone, x.item)) fun _ _ => rfl
theorem cchange_rd (s : RS) : cchange.rd s = rchange s := by
  show (MChange.mk (cflag.rd s).1 ((if (cflag.rd s).1 = true then cgone else citem).rd (cflag.rd s).2).1, ((if (cflag.rd s).1 = true then cgone else citem).rd (cflag.rd s).2).2) = _
  have e : cflag.rd s = rflag s := rfl
  rw [e]
  unfold rchange
  cases h : (rflag s).1 with
  | true => rfl
  | false => rfl
def rhit (s : RS) : MHit × RS := (⟨(rwhole (-9223372036854775808) 9223372036854775807 s).1, (rnum 4294967295 (rwhole (-9223372036854775808) 9223372036854775807 s).2).1⟩, (rnum 4294967295 (rwhole (-9223372036854775808) 9223372036854775807 s).2).2)
def chit : Codec MHit := cmap (cdep ci64 fun _ => cu32) (fun x => ⟨x.1, x.2⟩) (fun x => (x.dist, x.id)) fun _ _ => rfl
theorem chit_rd : chit.rd = rhit := rfl
def cchanges : Codec (List MChange) := clist cchange
def rchanges (s : RS) : List MChange × RS := rlist rchange s
theorem cchanges_rd : cchanges.rd = rchanges := by
  have : cchange.rd = rchange := funext cchange_rd
  show rlist cchange.rd = _
  rw [this]; rfl
/-- Changes that bytes are read as, an error's number. -/
def getChanges (b : List Int) : List MChange × Int := if (rend (rchanges ⟨b, 0⟩).2).why = 0 then ((rchanges ⟨b, 0⟩).1, 0) else ([], (rend (rchanges ⟨b, 0⟩).2).why)
end Go.Proofs.Ytnlibeaainbipaa.V
