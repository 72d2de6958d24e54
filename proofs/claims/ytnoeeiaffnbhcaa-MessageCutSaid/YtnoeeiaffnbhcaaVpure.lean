/- Numbers as bytes, seven bits a byte, in plain lists: what is written is read back, what is cut off is not, and only the shortest form is taken. Conditions: none. -/
import Derived.Laws.BitsLemmas
import Derived.RowKit
namespace Go.Proofs.Ytnoeeiaffnbhcaa.V

/-! ### what is written -/
def vput (n : Nat) : List Int := if n < 128 then [(n : Int)] else ((n % 128 + 128 : Nat) : Int) :: vput (n / 128)
termination_by n
decreasing_by omega

theorem vput_small {n : Nat} (h : n < 128) : vput n = [(n : Int)] := by rw [vput, if_pos h]
theorem vput_big {n : Nat} (h : ¬ n < 128) : vput n = ((n % 128 + 128 : Nat) : Int) :: vput (n / 128) := by rw [vput, if_neg h]

theorem vput_pos (n : Nat) : 0 < (vput n).length := by
  by_cases h : n < 128
  · rw [vput_small h]; simp
  · rw [vput_big h]; simp

theorem vput_le : ∀ (k n : Nat), n < 128 ^ (k + 1) → (vput n).length ≤ k + 1
  | 0, n, h => by rw [vput_small (by simpa using h)]; simp
  | k + 1, n, h => by
    by_cases h1 : n < 128
    · rw [vput_small h1]; simp
    · rw [vput_big h1]
      have : n / 128 < 128 ^ (k + 1) := by
        rw [Nat.div_lt_iff_lt_mul (by decide)]
        rw [Nat.pow_succ] at h
        exact h
      have := vput_le k (n / 128) this
      simp only [List.length_cons]; omega

theorem vput_u64 {n : Nat} (h : n < 18446744073709551616) : (vput n).length ≤ 10 := vput_le 9 n (Nat.lt_of_lt_of_le h (by decide))

theorem vput_byte {n : Nat} {x : Int} (h : x ∈ vput n) : 0 ≤ x ∧ x ≤ 255 := by
  induction n using Nat.strongRecOn with
  | ind n ih =>
    by_cases h1 : n < 128
    · rw [vput_small h1] at h; simp at h; omega
    · rw [vput_big h1] at h
      rcases List.mem_cons.1 h with h | h
      · omega
      · exact ih (n / 128) (by omega) h

/-- The last byte alone is small. -/
theorem vput_at {n : Nat} : ∀ (i : Nat) (h : i < (vput n).length), (128 ≤ (vput n)[i] ↔ i + 1 < (vput n).length) := by
  induction n using Nat.strongRecOn with
  | ind n ih =>
    intro i h
    by_cases h1 : n < 128
    · have e := vput_small h1
      simp only [e] at h ⊢
      simp at h
      subst h
      simp; omega
    · have e := vput_big h1
      simp only [e] at h ⊢
      cases i with
      | zero =>
        have := vput_pos (n / 128)
        simp; omega
      | succ i =>
        have := ih (n / 128) (by omega) i (by simpa using h)
        simp; omega

theorem vput_inj {a : Nat} : ∀ {b : Nat}, vput a = vput b → a = b := by
  induction a using Nat.strongRecOn with
  | ind a ih =>
    intro b h
    have pa := vput_pos (a / 128)
    have pb := vput_pos (b / 128)
    by_cases ha : a < 128
    · by_cases hb : b < 128
      · rw [vput_small ha, vput_small hb] at h; simp at h; omega
      · rw [vput_small ha, vput_big hb] at h
        have := congrArg List.length h
        simp only [List.length_cons, List.length_nil] at this; omega
    · by_cases hb : b < 128
      · rw [vput_big ha, vput_small hb] at h
        have := congrArg List.length h
        simp only [List.length_cons, List.length_nil] at this; omega
      · rw [vput_big ha, vput_big hb] at h
        obtain ⟨h0, h1⟩ := List.cons.inj h
        have := ih (a / 128) (by omega) h1
        omega

theorem vput_mono {a : Nat} : ∀ {b : Nat}, a ≤ b → (vput a).length ≤ (vput b).length := by
  induction a using Nat.strongRecOn with
  | ind a ih =>
    intro b h
    have pb := vput_pos b
    by_cases ha : a < 128
    · rw [vput_small ha]; simp; omega
    · rw [vput_big ha, vput_big (by omega : ¬ b < 128)]
      have := ih (a / 128) (by omega) (Nat.div_le_div_right h : a / 128 ≤ b / 128)
      simp; omega

/-! ### what is read -/
/-- From byte i on, where acc has been read: the number, how many bytes, an error's number. -/
def vgetFrom : Nat → Int → List Int → Int × Int × Int
  | _, _, [] => (0, 0, 40)
  | i, acc, c :: r => if i = 9 ∧ 1 < c then (0, 0, 41) else if c < 128 then (if c = 0 ∧ 0 < i then (0, 0, 41) else (acc + c * 2 ^ (7 * i), (i : Int) + 1, 0)) else vgetFrom (i + 1) (acc + (c - 128) * 2 ^ (7 * i)) r
def vget (b : List Int) : Int × Int × Int := vgetFrom 0 0 b

theorem pow7 (i : Nat) : (2 : Int) ^ (7 * (i + 1)) = 2 ^ (7 * i) * 128 := by rw [Nat.mul_add, Int.pow_add]; rfl
theorem pow7_pos (i : Nat) : (0 : Int) < 2 ^ (7 * i) := Int.pow_pos (by decide)

theorem split7 (n : Nat) (p : Int) : ((n % 128 : Nat) : Int) * p + ((n / 128 : Nat) : Int) * (p * 128) = (n : Int) * p := by
  have h : (n : Int) = ((n % 128 : Nat) : Int) + ((n / 128 : Nat) : Int) * 128 := by omega
  calc ((n % 128 : Nat) : Int) * p + ((n / 128 : Nat) : Int) * (p * 128) = (((n % 128 : Nat) : Int) + ((n / 128 : Nat) : Int) * 128) * p := by
        rw [Int.add_mul, Int.mul_assoc, Int.mul_comm p 128]
    _ = (n : Int) * p := by rw [← h]

theorem small_at {n i : Nat} (h : (n : Int) * 2 ^ (7 * i) < 18446744073709551616) (hi : i = 9) : n ≤ 1 := by
  subst hi
  have : (2 : Int) ^ (7 * 9) = 9223372036854775808 := by decide
  rw [this] at h
  omega

theorem next_at {n i : Nat} (h : (n : Int) * 2 ^ (7 * i) < 18446744073709551616) : ((n / 128 : Nat) : Int) * 2 ^ (7 * (i + 1)) < 18446744073709551616 := by
  refine Int.lt_of_le_of_lt ?_ h
  rw [pow7, ← split7 n (2 ^ (7 * i))]
  have h1 : (0 : Int) ≤ ((n % 128 : Nat) : Int) * 2 ^ (7 * i) := Int.mul_nonneg (Int.natCast_nonneg _) (Int.le_of_lt (pow7_pos i))
  omega

theorem vgetFrom_put (n : Nat) : ∀ (i : Nat) (acc : Int) (rest : List Int), (0 < i → 0 < n) → (n : Int) * 2 ^ (7 * i) < 18446744073709551616 →
    vgetFrom i acc (vput n ++ rest) = (acc + n * 2 ^ (7 * i), (i : Int) + (vput n).length, 0) := by
  induction n using Nat.strongRecOn with
  | ind n ih =>
    intro i acc rest hp hlt
    have h9 := small_at hlt
    by_cases h : n < 128
    · rw [vput_small h]
      simp only [List.cons_append, List.nil_append, vgetFrom, List.length_cons, List.length_nil]
      rw [if_neg (by omega), if_pos (by omega), if_neg (by omega)]
      simp
    · rw [vput_big h]
      simp only [List.cons_append, vgetFrom, List.length_cons]
      rw [if_neg (by omega), if_neg (by omega), ih (n / 128) (by omega) (i + 1) _ rest (by omega) (next_at hlt)]
      have e : ((n % 128 + 128 : Nat) : Int) - 128 = ((n % 128 : Nat) : Int) := by omega
      rw [e, Int.add_assoc, pow7, split7]
      simp only [Prod.mk.injEq, and_true, true_and]
      omega

theorem vget_put {n : Nat} (h : n < 18446744073709551616) (rest : List Int) : vget (vput n ++ rest) = ((n : Int), ((vput n).length : Int), 0) := by
  unfold vget
  rw [vgetFrom_put n 0 0 rest (by omega) (by simp; omega)]
  simp

theorem vgetFrom_cut (n : Nat) : ∀ (i : Nat) (acc : Int) (j : Nat), (n : Int) * 2 ^ (7 * i) < 18446744073709551616 → j < (vput n).length →
    vgetFrom i acc ((vput n).take j) = (0, 0, 40) := by
  induction n using Nat.strongRecOn with
  | ind n ih =>
    intro i acc j hlt hj
    have h9 := small_at hlt
    by_cases h : n < 128
    · rw [vput_small h] at hj ⊢
      have : j = 0 := by simpa using hj
      subst this; rfl
    · rw [vput_big h] at hj ⊢
      cases j with
      | zero => rfl
      | succ j =>
        simp only [List.take_succ_cons, vgetFrom]
        rw [if_neg (by omega), if_neg (by omega)]
        exact ih (n / 128) (by omega) (i + 1) _ j (next_at hlt) (by simpa using hj)

theorem vget_cut {n : Nat} (h : n < 18446744073709551616) {j : Nat} (hj : j < (vput n).length) : vget ((vput n).take j) = (0, 0, 40) :=
  vgetFrom_cut n 0 0 j (by simp; omega) hj

/-- Only what put writes is taken, and then all is as it was written. -/
theorem vgetFrom_ok (b : List Int) : ∀ (i : Nat) (acc : Int), i ≤ 9 → 0 ≤ acc → acc < 2 ^ (7 * i) → (∀ x ∈ b, 0 ≤ x ∧ x ≤ 255) → (vgetFrom i acc b).2.2 = 0 →
    ∃ n : Nat, (0 < i → 0 < n) ∧ (n : Int) * 2 ^ (7 * i) < 18446744073709551616 ∧ ∃ rest, b = vput n ++ rest := by
  induction b with
  | nil => intro i acc _ _ _ _ h; simp [vgetFrom] at h
  | cons c r ih =>
    intro i acc hi ha0 ha hb h
    obtain ⟨c0, c1⟩ := hb c (by simp)
    obtain ⟨m, rfl⟩ := Int.eq_ofNat_of_zero_le c0
    simp only [vgetFrom] at h
    have hp := pow7_pos i
    have hc9 : i ≤ 8 → (2 : Int) ^ (7 * i) ≤ 2 ^ (7 * 8) := fun h8 => by
      have : (2 : Nat) ^ (7 * i) ≤ 2 ^ (7 * 8) := Nat.pow_le_pow_right (by decide) (by omega)
      exact_mod_cast this
    by_cases h9 : i = 9 ∧ 1 < (m : Int)
    · rw [if_pos h9] at h; simp at h
    · rw [if_neg h9] at h
      by_cases hs : (m : Int) < 128
      · rw [if_pos hs] at h
        by_cases hz : (m : Int) = 0 ∧ 0 < i
        · rw [if_pos hz] at h; simp at h
        · refine ⟨m, by omega, ?_, r, by rw [vput_small (by omega)]; rfl⟩
          by_cases h8 : i ≤ 8
          · have h2 := hc9 h8
            have e : (2 : Int) ^ (7 * 8) = 72057594037927936 := by decide
            have : (m : Int) * 2 ^ (7 * i) ≤ 127 * 2 ^ (7 * 8) := Int.mul_le_mul (by omega) h2 (Int.le_of_lt hp) (by decide)
            rw [e] at this
            omega
          · have h9' : i = 9 := by omega
            subst h9'
            have e : (2 : Int) ^ (7 * 9) = 9223372036854775808 := by decide
            rw [e]
            omega
      · rw [if_neg hs] at h
        have h8 : i ≤ 8 := by omega
        have ha' : acc + ((m : Int) - 128) * 2 ^ (7 * i) < 2 ^ (7 * (i + 1)) := by
          rw [pow7]
          have : ((m : Int) - 128) * 2 ^ (7 * i) ≤ 127 * 2 ^ (7 * i) := Int.mul_le_mul_of_nonneg_right (by omega) (Int.le_of_lt hp)
          omega
        have ha0' : 0 ≤ acc + ((m : Int) - 128) * 2 ^ (7 * i) := by
          have : 0 ≤ ((m : Int) - 128) * 2 ^ (7 * i) := Int.mul_nonneg (by omega) (Int.le_of_lt hp)
          omega
        obtain ⟨n, hn0, hn, rest, rfl⟩ := ih (i + 1) _ (by omega) ha0' ha' (fun x hx => hb x (by simp [hx])) h
        have hn1 : 0 < n := hn0 (by omega)
        have e1 : (n * 128 + (m - 128)) % 128 = m - 128 := by omega
        have e2 : (n * 128 + (m - 128)) / 128 = n := by omega
        refine ⟨n * 128 + (m - 128), by omega, ?_, rest, ?_⟩
        · have e3 := split7 (n * 128 + (m - 128)) (2 ^ (7 * i))
          rw [e1, e2] at e3
          rw [← e3]
          rw [pow7] at hn
          have : ((m - 128 : Nat) : Int) * 2 ^ (7 * i) ≤ 127 * 2 ^ (7 * i) := Int.mul_le_mul_of_nonneg_right (by omega) (Int.le_of_lt hp)
          -- n * (p * 128) < 2^64 with p * 128 dividing 2^63 leaves room
          have hd : ∃ q : Int, (18446744073709551616 : Int) = q * (2 ^ (7 * i) * 128) := by
            refine ⟨2 ^ (57 - 7 * i), ?_⟩
            have : (2 : Int) ^ (57 - 7 * i) * (2 ^ (7 * i) * 128) = 2 ^ (57 - 7 * i + 7 * i + 7) := by rw [Int.pow_add, Int.pow_add, Int.mul_assoc]; rfl
            rw [this, show 57 - 7 * i + 7 * i + 7 = 64 by omega]; rfl
          obtain ⟨q, hq⟩ := hd
          rw [hq] at hn ⊢
          have hnq : (n : Int) < q := Int.lt_of_mul_lt_mul_right hn (by omega)
          have : ((n : Int) + 1) * (2 ^ (7 * i) * 128) ≤ q * (2 ^ (7 * i) * 128) := Int.mul_le_mul_of_nonneg_right (by omega) (by omega)
          rw [Int.add_mul] at this
          omega
        · rw [vput_big (by omega : ¬ n * 128 + (m - 128) < 128), e1, e2]
          simp only [List.cons_append, List.cons.injEq, and_true]
          omega

theorem vget_ok {b : List Int} (hb : ∀ x ∈ b, 0 ≤ x ∧ x ≤ 255) (h : (vget b).2.2 = 0) : ∃ n : Nat, n < 18446744073709551616 ∧ ∃ rest, b = vput n ++ rest := by
  obtain ⟨n, _, hn, rest, e⟩ := vgetFrom_ok b 0 0 (by omega) (by omega) (by simp) hb h
  refine ⟨n, ?_, rest, e⟩
  simp at hn
  omega

theorem vgetFrom_err (b : List Int) : ∀ (i : Nat) (acc : Int), (vgetFrom i acc b).2.2 ≠ 0 → (vgetFrom i acc b).1 = 0 ∧ (vgetFrom i acc b).2.1 = 0 := by
  induction b with
  | nil => intro i acc _; exact ⟨rfl, rfl⟩
  | cons c r ih =>
    intro i acc h
    simp only [vgetFrom] at h ⊢
    by_cases h9 : i = 9 ∧ 1 < c
    · rw [if_pos h9]; exact ⟨rfl, rfl⟩
    · rw [if_neg h9] at h ⊢
      by_cases hs : c < 128
      · rw [if_pos hs] at h ⊢
        by_cases hz : c = 0 ∧ 0 < i
        · rw [if_pos hz]; exact ⟨rfl, rfl⟩
        · rw [if_neg hz] at h; exact absurd rfl h
      · rw [if_neg hs] at h ⊢
        exact ih _ _ h
/-- What is read is a number of 64 bits, an error's number is one of three, and no more bytes are used than there are. -/
theorem vget_range {b : List Int} (hb : ∀ x ∈ b, 0 ≤ x ∧ x ≤ 255) : ∃ n : Nat, n < 18446744073709551616 ∧ (vget b).1 = n := by
  by_cases h : (vget b).2.2 = 0
  · obtain ⟨n, hn, rest, rfl⟩ := vget_ok hb h
    exact ⟨n, hn, by rw [vget_put hn]⟩
  · exact ⟨0, by decide, (vgetFrom_err b 0 0 h).1⟩

/-! ### whole numbers -/
/-- A whole number's number. -/
def zig (n : Int) : Nat := if 0 ≤ n then (2 * n).toNat else (2 * (-(n + 1)) + 1).toNat
def zag (m : Int) : Int := if m % 2 = 0 then m / 2 else -(m / 2) - 1
theorem zag_zig (n : Int) : zag (zig n : Int) = n := by unfold zig zag; split <;> (split <;> omega)
theorem zig_lt {n : Int} (h0 : -9223372036854775808 ≤ n) (h1 : n ≤ 9223372036854775807) : zig n < 18446744073709551616 := by unfold zig; split <;> omega
theorem zig_inj {a b : Int} (h : zig a = zig b) : a = b := by rw [← zag_zig a, ← zag_zig b, h]
end Go.Proofs.Ytnoeeiaffnbhcaa.V
