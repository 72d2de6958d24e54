/- A number is read back, whatever stands behind it; what is cut off is not. Conditions: none. -/
import Derived.Test.YtoaihmfaecfakaaPVarintBackx2
import Derived.Test.YtoaihmfaecfakaaVbits
namespace Go.Proofs.Ytoaihmfaecfakaa.PureVarintBack
open Go.RowKit Go.Proofs.Ytoaihmfaecfakaa.PVarintBack Go.Proofs.YtoaihmfaecfakaaW.PrintWords Go.Proofs.YtoaihmfaecfakaaW.PrintLast Go.Proofs.YtoaihmfaecfakaaW.PrintMore Go.Proofs.Ytoaihmfaecfakaa.V

/-! ### what the printed functions answer -/
theorem put_l0 (n : Nat) : ∀ (k : Nat) (xs : List Int), (vput n).length ≤ k → xs.length + (vput n).length < 140737488355328 → varint_Put.l0 k (n : Int) xs = some (xs ++ vput n) := by
  induction n using Nat.strongRecOn with
  | ind n ih =>
    intro k xs hk hx
    obtain ⟨k, rfl⟩ : ∃ m, k = m + 1 := ⟨k - 1, by have := vput_pos n; omega⟩
    by_cases h : n < 128
    · rw [vput_small h] at hk hx ⊢
      simp only [varint_Put.l0]
      rw [if_neg (by omega), if_pos (by simp at hx; omega), show (n : Int) % 256 = n by omega]
    · rw [vput_big h] at hk hx ⊢
      simp only [varint_Put.l0]
      simp only [List.length_cons] at hk hx
      rw [if_pos (by omega), if_pos (by omega), or_128, show (n : Int) / 128 = ((n / 128 : Nat) : Int) by omega, ih (n / 128) (by omega) k _ (by omega) (by simp; omega)]
      simp

theorem put_f {n : Nat} (h : n < 18446744073709551616) {k : Nat} (hk : 10 ≤ k) : varint_Put.f k (n : Int) = some (vput n) := by
  have := vput_u64 h
  unfold varint_Put.f
  rw [put_l0 n k [] (by omega) (by simp; omega)]
  simp

theorem putInt_f {a : Int} (h0 : -9223372036854775808 ≤ a) (h1 : a ≤ 9223372036854775807) {k : Nat} (hk : 10 ≤ k) : varint_PutInt.f k a = some (vput (zig a)) := by
  unfold varint_PutInt.f
  rw [zig_bits h0 h1, put_f (zig_lt h0 h1) hk]
  rfl

theorem rd_nat (xs : List Int) (i : Nat) (h : i < xs.length) : rd xs (i : Int) = xs[i] := by
  unfold rd
  rw [Int.toNat_natCast, List.getD_eq_getElem?_getD, List.getElem?_eq_getElem h]; rfl

theorem get_j1 {i : Nat} (hi9 : i ≤ 9) {acc c : Int} (ha0 : 0 ≤ acc) (ha : acc < 2 ^ (7 * i)) (h0 : 0 ≤ c) (h1 : c ≤ 255) (h9 : ¬ (i = 9 ∧ 1 < c)) (k : Nat) (b : List Int) (l : Int) :
    varint_Get.j1 (k + 1) acc (i : Int) c b l (i : Int) false = if c < 128 then (if c = 0 ∧ 0 < i then some (0, 0, 41) else some (acc + c * 2 ^ (7 * i), (i : Int) + 1, 0)) else varint_Get.l0 k (acc + (c - 128) * 2 ^ (7 * i)) b l ((i + 1 : Nat) : Int) := by
  have hst := step_or hi9 ha0 ha h0 h1 (fun h => by omega)
  have hw7 : (0 : Int) ≤ wrap64 (7 * (i : Int)) := by rw [w64_id (by omega) (by omega)]; omega
  have hw : wrap64 ((i : Int) + 1) = ((i + 1 : Nat) : Int) := by rw [w64_id (by omega) (by omega)]; rfl
  simp only [varint_Get.j1]
  rw [if_neg (by decide), if_pos hw7, hst, hw]
  clear hst hw hw7
  by_cases hs : c < 128
  · have hm : c % 128 = c := by omega
    rw [if_pos hs, if_pos hs, hm]
    by_cases hz : c = 0
    · rw [if_pos hz]
      by_cases hi0 : 0 < i
      · rw [if_pos (by clear ha; omega), if_pos ⟨hz, hi0⟩]
      · rw [if_neg (by clear ha; omega), if_neg (fun h => hi0 h.2)]; rfl
    · rw [if_neg hz, if_neg (fun h => hz h.1)]; rfl
  · have hm : c % 128 = c - 128 := by omega
    rw [if_neg hs, if_neg hs, hm]

theorem get_l0 (b : List Int) (hb : ∀ x ∈ b, 0 ≤ x ∧ x ≤ 255) : ∀ (d i : Nat) (acc : Int) (k : Nat), b.length - i = d → i ≤ b.length → i ≤ 9 → 0 ≤ acc → acc < 2 ^ (7 * i) → 2 * d < k →
    varint_Get.l0 k acc b (b.length : Int) (i : Int) = some (vgetFrom i acc (b.drop i)) := by
  intro d
  induction d with
  | zero =>
    intro i acc k hd hi _ _ _ hk
    obtain ⟨k, rfl⟩ : ∃ m, k = m + 1 := ⟨k - 1, by omega⟩
    simp only [varint_Get.l0]
    rw [if_neg (by omega), List.drop_of_length_le (by omega)]
    rfl
  | succ d ih =>
    intro i acc k hd hi hi9 ha0 ha hk
    obtain ⟨k, rfl⟩ : ∃ m, k = m + 1 + 1 := ⟨k - 2, by omega⟩
    have hlt : i < b.length := by omega
    have hr := rd_nat b i hlt
    have hc := hb b[i] (List.getElem_mem hlt)
    rw [List.drop_eq_getElem_cons hlt]
    generalize b[i] = c at hr hc ⊢
    obtain ⟨h0, h1⟩ := hc
    simp only [vgetFrom]
    simp only [varint_Get.l0]
    rw [if_pos (by omega), if_pos (by omega), if_pos (by omega), hr]
    by_cases h9 : i = 9 ∧ 1 < c
    · rw [if_pos (by omega), if_pos h9, decide_eq_true (by omega)]
      simp only [varint_Get.j1, if_true]
    · have e : (if (i : Int) = 9 then varint_Get.j1 (k + 1) acc (i : Int) c b (b.length : Int) (i : Int) (decide (c > 1)) else varint_Get.j1 (k + 1) acc (i : Int) c b (b.length : Int) (i : Int) false) = varint_Get.j1 (k + 1) acc (i : Int) c b (b.length : Int) (i : Int) false := by
        split
        · rw [decide_eq_false (by omega)]
        · rfl
      rw [e, if_neg h9, get_j1 hi9 ha0 ha h0 h1 h9]
      by_cases hs : c < 128
      · rw [if_pos hs, if_pos hs]
        split <;> rfl
      · rw [if_neg hs, if_neg hs]
        have st := step_lt (c := c) ha0 ha
        have hm : c % 128 = c - 128 := by omega
        rw [hm] at st
        have h8 : i ≤ 8 := by omega
        rw [ih (i + 1) _ k (by omega) (by omega) (by omega) st.1 st.2 (by omega)]

theorem get_f {b : List Int} (hb : ∀ x ∈ b, 0 ≤ x ∧ x ≤ 255) {k : Nat} (hk : 2 * b.length < k) : varint_Get.f k b = some (vget b) := by
  unfold varint_Get.f vget
  have := get_l0 b hb b.length 0 0 k (by omega) (by omega) (by omega) (by simp) (by simp) (by omega)
  simpa using this

theorem alive_f {k : Nat} (hk : 20 ≤ k) : lodestarlaw04_alive.f k = some true := by
  unfold lodestarlaw04_alive.f
  rw [get_f (b := [172, 2, 9]) (by decide) (by simp; omega), vget_ex, show (300 : Int) = ((300 : Nat) : Int) from rfl, put_f (by decide) (by omega), vput_300, putInt_f (by decide) (by decide) (by omega),
    show zig (-1) = 1 from by decide, vput_1]
  simp only [Option.bind_some]
  rw [if_pos str_ex2, if_pos str_ex1]
  simp

theorem getInt_f {b : List Int} (hb : Bs b) {k : Nat} (hk : 2 * b.length < k) : varint_GetInt.f k b = some (Go.bits .xor .i64 (wrap64 ((vget b).1 / 2)) (wrap64 (-(wrap64 (Go.bits .and .u64 (vget b).1 1)))), (vget b).2.1, (vget b).2.2) := by
  unfold varint_GetInt.f
  rw [get_f hb hk]
  rfl

theorem back_l0 {n : Nat} (hn : n < 18446744073709551616) : ∀ (d i k : Nat), (vput n).length - i = d → d + 40 < k → lodestarlaw04_VarintBack.l0 k (vput n) (i : Int) = some true := by
  have h10 := vput_u64 hn
  intro d
  induction d with
  | zero =>
    intro i k hd hk
    obtain ⟨k, rfl⟩ : ∃ m, k = m + 1 := ⟨k - 1, by omega⟩
    simp only [lodestarlaw04_VarintBack.l0]
    rw [if_neg (by omega)]
  | succ d ih =>
    intro i k hd hk
    obtain ⟨k, rfl⟩ : ∃ m, k = m + 1 := ⟨k - 1, by omega⟩
    simp only [lodestarlaw04_VarintBack.l0]
    rw [if_pos (by omega), if_pos (by omega), if_pos (by omega), Int.toNat_natCast, get_f ((vput_bs n).take i) (by rw [List.length_take]; omega), vget_cut hn (by omega)]
    simp only [Option.bind_some, if_true]
    rw [show wrap64 ((i : Int) + 1) = ((i + 1 : Nat) : Int) from by rw [w64_id (by omega) (by omega)]; rfl]
    exact ih (i + 1) k (by omega) (by omega)

end Go.Proofs.Ytoaihmfaecfakaa.PureVarintBack
namespace Go.Proofs.Ytoaihmfaecfakaa.Pure
open Go.RowKit Go.Proofs.Ytoaihmfaecfakaa.PVarintBack Go.Proofs.YtoaihmfaecfakaaW.PrintWords Go.Proofs.YtoaihmfaecfakaaW.PrintLast Go.Proofs.YtoaihmfaecfakaaW.PrintMore Go.Proofs.Ytoaihmfaecfakaa.V Go.Proofs.Ytoaihmfaecfakaa.PureVarintBack
theorem VarintBack : lodestarlaw04_VarintBack.Pure := by
  intro a l ha _ hl2 hw
  have hl : l.length ≤ 140737488351232 := by omega
  have hb := bs_wf hw
  obtain ⟨a0, a1⟩ := bounds_u64 ha
  obtain ⟨n, rfl⟩ := Int.eq_ofNat_of_zero_le a0
  have hn : n < 18446744073709551616 := by omega
  have h10 := vput_u64 hn
  obtain ⟨z0, z1⟩ : -9223372036854775808 ≤ wrap64 (n : Int) ∧ wrap64 (n : Int) ≤ 9223372036854775807 := by unfold wrap64; omega
  have hz := zig_lt z0 z1
  have g10 := vput_u64 hz
  obtain ⟨K, hK⟩ : ∃ K, K = 2 * l.length + 100 := ⟨_, rfl⟩
  refine ⟨K + 1, ?_⟩
  have e1 := get_f (k := K + 1) ((vput_bs n).append hb) (by rw [List.length_append]; omega)
  rw [vget_put hn] at e1
  have e2 := getInt_f (k := K + 1) ((vput_bs (zig (wrap64 (n : Int)))).append hb) (by rw [List.length_append]; omega)
  rw [vget_put hz] at e2
  have e3 : Go.bits .xor .i64 (wrap64 ((zig (wrap64 (n : Int)) : Int) / 2)) (wrap64 (-(wrap64 (Go.bits .and .u64 (zig (wrap64 (n : Int)) : Int) 1)))) = wrap64 (n : Int) := by
    rw [zag_bits (by omega) (by omega), zag_zig]
  simp only [e3] at e2
  have e4 := back_l0 hn _ 0 K rfl (by omega)
  unfold lodestarlaw04_VarintBack.f
  rw [alive_f (by omega), put_f hn (by omega), putInt_f z0 z1 (by omega)]
  clear hK
  generalize vput (zig (wrap64 (n : Int))) = y at *
  generalize vput n = x at *
  simp -implicitDefEqProofs only [Option.bind_some, if_true, List.nil_append, List.length_nil]
  rw [if_pos (by omega), if_pos (by omega), e1]
  simp -implicitDefEqProofs only [Option.bind_some]
  rw [if_pos (by omega), e2]
  simp -implicitDefEqProofs only [Option.bind_some, if_true, lodestarlaw04_VarintBack.j0, bne_self_eq_false, Bool.false_eq_true, if_false]
  exact e4
end Go.Proofs.Ytoaihmfaecfakaa.Pure
