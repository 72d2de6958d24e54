/- What differs in a window of 32 bits sums to another number. Conditions: none. -/
import Derived.Test.YtnlibeaainbipaaGreatZ5
namespace Go.Proofs.YtnlibeaainbipaaGreat.F
open Go.Proofs.YtnlibeaainbipaaGreat.V

theorem one_zero : one 0#32 = 0#32 := by decide
theorem one_ne {x : W32} (h : x ≠ 0#32) : one x ≠ 0#32 := by
  intro h0
  apply h
  cases hb : x.getLsbD 0 with
  | true =>
    rw [one_on hb] at h0
    have := congrArg (fun z : W32 => z.getLsbD 31) h0
    simp [poly] at this
  | false =>
    rw [one_off hb] at h0
    apply BitVec.eq_of_getLsbD_eq
    intro i hi
    cases i with
    | zero => rw [hb]; simp
    | succ i =>
      have := congrArg (fun z : W32 => z.getLsbD i) h0
      rw [BitVec.getLsbD_ushiftRight, Nat.add_comm] at this
      simpa using this
theorem ones_zero : ∀ k, ones k 0#32 = 0#32
  | 0 => rfl
  | k + 1 => by show one (ones k 0#32) = _; rw [ones_zero k, one_zero]
theorem ones_ne {x : W32} (h : x ≠ 0#32) : ∀ k, ones k x ≠ 0#32
  | 0 => h
  | k + 1 => one_ne (ones_ne h k)
theorem ones_xor (x y : W32) : ∀ k, ones k (x ^^^ y) = ones k x ^^^ ones k y
  | 0 => rfl
  | k + 1 => by show one (ones k (x ^^^ y)) = _; rw [ones_xor x y k, one_xor]; rfl
theorem ones_top : ∀ k : Fin 32, ones k.1 (1#32 <<< k.1) = 1#32 := by decide +kernel

def bit (b : Bool) : W32 := if b then 1#32 else 0#32
theorem bit_xor (a b : Bool) : bit (a ^^ b) = bit a ^^^ bit b := by cases a <;> cases b <;> decide
/-- Bit by bit. -/
def T (x : W32) (f : Nat → Bool) : Nat → W32
  | 0 => x
  | n + 1 => one (T x f n ^^^ bit (f n))
theorem xor4 (a b c d : W32) : (a ^^^ b) ^^^ (c ^^^ d) = (a ^^^ c) ^^^ (b ^^^ d) := by
  ext i hi
  simp only [BitVec.getElem_xor]
  cases a[i] <;> cases b[i] <;> cases c[i] <;> cases d[i] <;> rfl
theorem T_xor (x y : W32) (f g : Nat → Bool) : ∀ n, T x f n ^^^ T y g n = T (x ^^^ y) (fun i => f i ^^ g i) n
  | 0 => rfl
  | n + 1 => by
    show one (T x f n ^^^ bit (f n)) ^^^ one (T y g n ^^^ bit (g n)) = one (T (x ^^^ y) (fun i => f i ^^ g i) n ^^^ bit (f n ^^ g n))
    rw [← one_xor, xor4, T_xor x y f g n, bit_xor]
/-- The first k bits as a word. -/
def R (f : Nat → Bool) : Nat → W32
  | 0 => 0#32
  | k + 1 => R f k ^^^ (if f k then 1#32 <<< k else 0#32)
theorem shl_one (k j : Nat) (hk : k < 32) : (1#32 <<< k).getLsbD j = decide (j = k) := by
  rw [BitVec.getLsbD_shiftLeft]
  by_cases h : j = k
  · subst h; simp [hk]
  · by_cases h2 : j < k
    · simp [h2, h]
    · have : (1#32 : W32).getLsbD (j - k) = false := by
        rw [BitVec.getLsbD_one]; simp; omega
      simp [this, h]
theorem R_at (f : Nat → Bool) : ∀ k, k ≤ 32 → ∀ j, (R f k).getLsbD j = (decide (j < k) && f j)
  | 0, _, j => by simp [R]
  | k + 1, hk, j => by
    show (R f k ^^^ (if f k then 1#32 <<< k else 0#32)).getLsbD j = _
    rw [BitVec.getLsbD_xor, R_at f k (by omega) j]
    have hs := shl_one k j (by omega)
    by_cases h : j = k
    · subst h
      cases hf : f j
      · simp
      · simp [hs]
    · have h1 : decide (j < k + 1) = decide (j < k) := by rw [decide_eq_decide]; omega
      cases hf : f k
      · simp [h1]
      · simp [hs, h, h1]
theorem T_add (x : W32) (f : Nat → Bool) (n : Nat) : ∀ k, k ≤ 32 → T x f (n + k) = ones k (T x f n ^^^ R (fun j => f (n + j)) k)
  | 0, _ => by show T x f n = T x f n ^^^ 0#32; simp
  | k + 1, hk => by
    show one (T x f (n + k) ^^^ bit (f (n + k))) = one (ones k (T x f n ^^^ (R (fun j => f (n + j)) k ^^^ (if f (n + k) then 1#32 <<< k else 0#32))))
    have ht := ones_top ⟨k, by omega⟩
    rw [T_add x f n k (by omega), ← BitVec.xor_assoc, ones_xor (T x f n ^^^ R (fun j => f (n + j)) k)]
    congr 2
    cases f (n + k)
    · show bit false = ones k 0#32; rw [ones_zero]; rfl
    · exact ht.symm
theorem T_tail (x : W32) (f : Nat → Bool) (n : Nat) (h : ∀ i, n ≤ i → f i = false) : ∀ k, T x f (n + k) = ones k (T x f n)
  | 0 => rfl
  | k + 1 => by
    show one (T x f (n + k) ^^^ bit (f (n + k))) = one (ones k (T x f n))
    rw [h _ (by omega), T_tail x f n h k]
    simp [bit]
theorem T_head (f : Nat → Bool) : ∀ n, (∀ i, i < n → f i = false) → T 0#32 f n = 0#32
  | 0, _ => rfl
  | n + 1, h => by
    show one (T 0#32 f n ^^^ bit (f n)) = _
    rw [T_head f n (fun i hi => h i (by omega)), h n (by omega)]
    decide
/-- The window. -/
theorem T_window {f : Nat → Bool} {p n : Nat} (h0 : ∀ i, f i = true → p ≤ i ∧ i < p + 32 ∧ i < n) (h1 : ∃ i, f i = true) : T 0#32 f n ≠ 0#32 := by
  have lo : T 0#32 f p = 0#32 := T_head f p fun i hi => by
    cases hf : f i with
    | false => rfl
    | true => have := h0 i hf; omega
  have mid : T 0#32 f (p + 32) ≠ 0#32 := by
    rw [T_add _ _ _ 32 (Nat.le_refl _), lo, BitVec.zero_xor]
    refine ones_ne (fun hz => ?_) 32
    obtain ⟨i, hi⟩ := h1
    obtain ⟨a, b, _⟩ := h0 i hi
    have := congrArg (fun z : W32 => z.getLsbD (i - p)) hz
    rw [R_at _ 32 (Nat.le_refl _)] at this
    have e : p + (i - p) = i := by omega
    simp [e, hi] at this
    omega
  by_cases h : p + 32 ≤ n
  · have t := T_tail 0#32 f (p + 32) (fun i hi => by
      cases hf : f i with
      | false => rfl
      | true => have := h0 i hf; omega) (n - (p + 32))
    rw [show p + 32 + (n - (p + 32)) = n by omega] at t
    rw [t]
    exact ones_ne mid _
  · intro hz
    have t := T_tail 0#32 f n (fun i hi => by
      cases hf : f i with
      | false => rfl
      | true => have := h0 i hf; omega) (p + 32 - n)
    rw [show n + (p + 32 - n) = p + 32 by omega, hz, ones_zero] at t
    exact mid t

def bitAt (bs : List (BitVec 8)) (i : Nat) : Bool := (bs.getD (i / 8) 0#8).getLsbD (i % 8)
theorem bitAt_out {bs : List (BitVec 8)} {i : Nat} (h : 8 * bs.length ≤ i) : bitAt bs i = false := by
  unfold bitAt
  rw [List.getD_eq_getElem?_getD, List.getElem?_eq_none (by omega)]
  simp
theorem run_T (x : W32) (bs : List (BitVec 8)) : ∀ i, i ≤ bs.length → V.run x (bs.take i) = T x (bitAt bs) (8 * i)
  | 0, _ => rfl
  | i + 1, h => by
    rw [run_take (by omega), run_T x bs i (by omega), show 8 * (i + 1) = 8 * i + 8 by omega, T_add _ _ _ 8 (by decide), ones8]
    congr 2
    apply BitVec.eq_of_getLsbD_eq
    intro j hj
    rw [R_at _ 8 (by decide)]
    unfold wd bitAt
    rw [BitVec.getLsbD_setWidth]
    by_cases h8 : j < 8
    · have e1 : (8 * i + j) / 8 = i := by omega
      have e2 : (8 * i + j) % 8 = j := by omega
      rw [e1, e2, List.getD_eq_getElem?_getD, List.getElem?_eq_getElem (by omega)]
      simp [h8, hj]
    · have : bs[i].getLsbD j = false := BitVec.getLsbD_of_ge _ _ (by omega)
      rw [this]
      simp [h8]
theorem run_all (x : W32) (bs : List (BitVec 8)) : V.run x bs = T x (bitAt bs) (8 * bs.length) := by
  have := run_T x bs bs.length (Nat.le_refl _)
  rwa [List.take_length] at this

/-- Sums of lists as long as each other: alike, or what differs is no window of 32 bits. -/
theorem sum_ne {xs ys : List (BitVec 8)} {p : Nat} (hl : ys.length = xs.length) (h0 : ∀ i, bitAt xs i ≠ bitAt ys i → p ≤ i ∧ i < p + 32) (h1 : ∃ i, bitAt xs i ≠ bitAt ys i) : more 0#32 xs ≠ more 0#32 ys := by
  unfold more
  rw [Ne, not_inj, run_all, run_all, hl]
  intro he
  have hx := T_xor (~~~ 0#32) (~~~ 0#32) (bitAt xs) (bitAt ys) (8 * xs.length)
  rw [he, BitVec.xor_self, BitVec.xor_self] at hx
  refine T_window (f := fun i => bitAt xs i ^^ bitAt ys i) (p := p) (n := 8 * xs.length) ?_ ?_ hx.symm
  · intro i hi
    have hne : bitAt xs i ≠ bitAt ys i := by simpa using hi
    obtain ⟨a, b⟩ := h0 i hne
    refine ⟨a, b, ?_⟩
    rcases Nat.lt_or_ge i (8 * xs.length) with h | h
    · exact h
    · rw [bitAt_out h, bitAt_out (by omega)] at hne
      exact absurd rfl hne
  · obtain ⟨i, hi⟩ := h1
    exact ⟨i, by simpa using hi⟩
end Go.Proofs.YtnlibeaainbipaaGreat.F
