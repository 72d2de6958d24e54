/- A number's bytes as a chain: all but the last are 128 at least. What the reading says of a chain. Conditions: none. -/
import Derived.Test.YtnoeeiaffnbhcaaVbits
namespace Go.Proofs.Ytnoeeiaffnbhcaa.V
open Go.RowKit

/-- The number that a chain says. -/
def val : List Int → Nat
  | [] => 0
  | c :: r => (c % 128).toNat + 128 * val r
def Chain : List Int → Prop
  | [] => False
  | [c] => 0 ≤ c ∧ c < 128
  | c :: d :: r => 128 ≤ c ∧ c ≤ 255 ∧ Chain (d :: r)
def lastZ : List Int → Bool
  | [] => false
  | [c] => c == 0
  | _ :: d :: r => lastZ (d :: r)
def last1 : List Int → Prop
  | [] => True
  | [c] => c ≤ 1
  | _ :: d :: r => last1 (d :: r)
def High (t : List Int) : Prop := ∀ x ∈ t, 128 ≤ x ∧ x ≤ 255

theorem vput_chain : ∀ {t : List Int}, Chain t → (vput (val t) = t ↔ ¬ (lastZ t = true ∧ 1 < t.length))
  | [], h => h.elim
  | [c], h => by
    obtain ⟨h0, h1⟩ := h
    have e : val [c] = c.toNat := by simp only [val]; omega
    rw [e, vput_small (by omega)]
    simp; omega
  | c :: d :: r, h => by
    obtain ⟨h0, h1, h2⟩ := h
    have ih := vput_chain h2
    have hz : lastZ (c :: d :: r) = lastZ (d :: r) := rfl
    have hv : val (c :: d :: r) = (c % 128).toNat + 128 * val (d :: r) := rfl
    rw [hz, hv]
    by_cases h : val (d :: r) = 0
    · rw [h, vput_small (by omega)]
      have : lastZ (d :: r) = true := by
        cases r with
        | nil =>
          obtain ⟨q0, q1⟩ := h2
          simp only [val] at h
          simp only [lastZ, beq_iff_eq]
          omega
        | cons e r =>
          cases hx : lastZ (d :: e :: r) with
          | true => rfl
          | false =>
            rw [hx] at ih
            have := ih.2 (by simp)
            rw [h, vput_small (by omega)] at this
            simp at this
      simp [this]
    · rw [vput_big (by omega)]
      have e1 : ((c % 128).toNat + 128 * val (d :: r)) / 128 = val (d :: r) := by omega
      have e2 : ((((c % 128).toNat + 128 * val (d :: r)) % 128 + 128 : Nat) : Int) = c := by omega
      rw [e1, e2]
      simp only [List.cons.injEq, true_and]
      rw [ih]
      cases r with
      | nil =>
        obtain ⟨q0, q1⟩ := h2
        have : lastZ [d] = false := by
          simp only [lastZ, beq_eq_false_iff_ne]
          simp only [val] at h
          omega
        simp [this]
      | cons e r => simp

theorem vgetFrom_chain : ∀ (t : List Int) (i : Nat) (acc : Int) (rest : List Int), Chain t → i + t.length ≤ 10 → (i + t.length = 10 → last1 t) →
    vgetFrom i acc (t ++ rest) = if lastZ t = true ∧ 1 < i + t.length then (0, 0, 41) else (acc + val t * 2 ^ (7 * i), (i : Int) + t.length, 0)
  | [], _, _, _, h, _, _ => h.elim
  | [c], i, acc, rest, h, hl, h9 => by
    obtain ⟨h0, h1⟩ := h
    have h9' : ¬ (i = 9 ∧ 1 < c) := fun ⟨e, hx⟩ => by
      have : c ≤ 1 := h9 (by simp [e])
      omega
    simp only [List.cons_append, List.nil_append, vgetFrom, lastZ, beq_iff_eq, List.length_cons, List.length_nil, val]
    rw [if_neg h9', if_pos h1]
    by_cases hz : c = 0 ∧ 0 < i
    · rw [if_pos hz, if_pos (by omega)]
    · rw [if_neg hz, if_neg (by omega)]
      have : (((c % 128).toNat + 128 * 0 : Nat) : Int) = c := by omega
      rw [this]
      rfl
  | c :: d :: r, i, acc, rest, h, hl, h9 => by
    obtain ⟨h0, h1, h2⟩ := h
    simp only [List.length_cons] at hl
    have ih := vgetFrom_chain (d :: r) (i + 1) (acc + (c - 128) * 2 ^ (7 * i)) rest h2 (by simp only [List.length_cons]; omega) (fun e => h9 (by simp only [List.length_cons] at e ⊢; omega))
    have hstep : vgetFrom i acc (c :: d :: r ++ rest) = vgetFrom (i + 1) (acc + (c - 128) * 2 ^ (7 * i)) (d :: r ++ rest) := by
      simp only [List.cons_append, vgetFrom]
      rw [if_neg (by omega), if_neg (by omega)]
    rw [hstep, ih]
    have hz : lastZ (c :: d :: r) = lastZ (d :: r) := rfl
    have hv : val (c :: d :: r) = (c % 128).toNat + 128 * val (d :: r) := rfl
    rw [hz, hv]
    simp only [List.length_cons]
    by_cases hc : lastZ (d :: r) = true
    · rw [if_pos ⟨hc, by omega⟩, if_pos ⟨hc, by omega⟩]
    · rw [if_neg (fun q => hc q.1), if_neg (fun q => hc q.1), pow7]
      have e : (((c % 128).toNat + 128 * val (d :: r) : Nat) : Int) = (c - 128) + val (d :: r) * 128 := by omega
      rw [e, Int.add_mul, Int.mul_assoc (val (d :: r) : Int), Int.mul_comm 128]
      simp only [Prod.mk.injEq, and_true]
      constructor <;> omega

theorem vget_chain {t : List Int} (h : Chain t) (hl : t.length ≤ 10) (h1 : t.length = 10 → last1 t) (rest : List Int) : vget (t ++ rest) = if vput (val t) = t then ((val t : Int), (t.length : Int), 0) else (0, 0, 41) := by
  unfold vget
  rw [vgetFrom_chain t 0 0 rest h (by omega) (by simpa using h1)]
  have := vput_chain h
  by_cases hc : lastZ t = true ∧ 1 < t.length
  · rw [if_pos (by simpa using hc), if_neg (fun q => this.1 q hc)]
  · rw [if_neg (by simpa using hc), if_pos (this.2 hc)]
    simp

theorem vgetFrom_high : ∀ (t : List Int) (i : Nat) (acc : Int) (rest : List Int), High t → i + t.length = 10 → 0 < t.length → vgetFrom i acc (t ++ rest) = (0, 0, 41)
  | [], _, _, _, _, _, h => absurd h (by simp)
  | c :: r, i, acc, rest, h, hl, _ => by
    obtain ⟨h0, h1⟩ := h c (by simp)
    simp only [List.cons_append, vgetFrom]
    by_cases h9 : i = 9
    · rw [if_pos ⟨h9, by omega⟩]
    · simp only [List.length_cons] at hl
      rw [if_neg (fun q => h9 q.1), if_neg (by omega)]
      exact vgetFrom_high r (i + 1) _ rest (fun x hx => h x (by simp [hx])) (by omega) (by omega)
theorem vgetFrom_nine : ∀ (t : List Int) (i : Nat) (acc : Int) (d : Int) (rest : List Int), High t → i + t.length = 9 → 1 < d → vgetFrom i acc (t ++ d :: rest) = (0, 0, 41)
  | [], i, acc, d, rest, _, hl, hd => by
    simp only [List.nil_append, vgetFrom]
    rw [if_pos ⟨by simpa using hl, hd⟩]
  | c :: r, i, acc, d, rest, h, hl, hd => by
    obtain ⟨h0, h1⟩ := h c (by simp)
    simp only [List.length_cons] at hl
    simp only [List.cons_append, vgetFrom]
    rw [if_neg (by omega), if_neg (by omega)]
    exact vgetFrom_nine r (i + 1) _ d rest (fun x hx => h x (by simp [hx])) (by omega) hd
theorem vgetFrom_short : ∀ (t : List Int) (i : Nat) (acc : Int), High t → i + t.length ≤ 9 → vgetFrom i acc t = (0, 0, 40)
  | [], _, _, _, _ => rfl
  | c :: r, i, acc, h, hl => by
    obtain ⟨h0, h1⟩ := h c (by simp)
    simp only [List.length_cons] at hl
    simp only [vgetFrom]
    rw [if_neg (by omega), if_neg (by omega)]
    exact vgetFrom_short r (i + 1) _ (fun x hx => h x (by simp [hx])) (by omega)

theorem chain_of : ∀ {t : List Int} {d : Int}, High t → 0 ≤ d → d < 128 → Chain (t ++ [d])
  | [], d, _, h0, h1 => ⟨h0, h1⟩
  | [c], d, h, h0, h1 => ⟨(h c (by simp)).1, (h c (by simp)).2, h0, h1⟩
  | c :: e :: r, d, h, h0, h1 => ⟨(h c (by simp)).1, (h c (by simp)).2, chain_of (t := e :: r) (fun x hx => h x (List.mem_cons_of_mem _ hx)) h0 h1⟩
theorem last1_of : ∀ {t : List Int} {d : Int}, d ≤ 1 → last1 (t ++ [d])
  | [], _, h => h
  | [_], _, h => h
  | _ :: e :: r, _, h => last1_of (t := e :: r) h

theorem val_lt : ∀ (t : List Int), val t < 128 ^ t.length
  | [] => by simp [val]
  | c :: r => by
    have := val_lt r
    simp only [val, List.length_cons, Nat.pow_succ]
    omega
theorem val_lt1 : ∀ {t : List Int}, Chain t → last1 t → val t < 2 * 128 ^ (t.length - 1)
  | [], h, _ => h.elim
  | [c], h, h1 => by
    obtain ⟨h0, _⟩ := h
    have h1 : c ≤ 1 := h1
    simp only [val, List.length_cons, List.length_nil]
    omega
  | c :: d :: r, h, h1 => by
    obtain ⟨_, _, h2⟩ := h
    have := val_lt1 h2 h1
    have e : (c :: d :: r).length - 1 = ((d :: r).length - 1) + 1 := by simp
    rw [e, Nat.pow_succ]
    simp only [val] at this ⊢
    omega
/-- A chain's number is one of 64 bits, where the tenth byte is 1 at most. -/
theorem val_u64 {t : List Int} (hl : t.length ≤ 10) (h1 : t.length = 10 → last1 t) (h : Chain t) : val t < 18446744073709551616 := by
  by_cases h10 : t.length = 10
  · have := val_lt1 h (h1 h10)
    rw [h10] at this
    exact this
  · have := val_lt t
    have h2 : 128 ^ t.length ≤ 128 ^ 9 := Nat.pow_le_pow_right (by decide) (by omega)
    have : (128 : Nat) ^ 9 < 18446744073709551616 := by decide
    omega
end Go.Proofs.Ytnoeeiaffnbhcaa.V
