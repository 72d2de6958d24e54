/- The bit operations of the varint code, as plain sums. Conditions: the ranges that each theorem names. -/
import Derived.Test.YtnoeeiaffnbhcaaVpure
import Derived.Lib.Bytes
import Derived.OpenShut
namespace Go.Proofs.Ytnoeeiaffnbhcaa.V
open Go.RowKit

theorem u64_id {n : Int} (h0 : 0 ≤ n) (h : n < 18446744073709551616) : IntKind.u64.wrap n = n := by
  simp [IntKind.wrap, IntKind.bits, IntKind.signed]; omega
theorem u64_mod (n : Int) : IntKind.u64.wrap n = n % 18446744073709551616 := by simp [IntKind.wrap, IntKind.bits, IntKind.signed]
theorem w64_id {n : Int} (h0 : -9223372036854775808 ≤ n) (h : n ≤ 9223372036854775807) : wrap64 n = n := by unfold wrap64; omega

set_option maxRecDepth 10000 in
theorem or128_nat : ∀ a < 256, a ||| 128 = a % 128 + 128 := by decide
theorem or_128 {n : Nat} : Go.bits .or .u8 ((n : Int) % 256) 128 = ((n % 128 + 128 : Nat) : Int) := by
  have e : (n : Int) % 256 = ((n % 256 : Nat) : Int) := by omega
  have e2 : (128 : Int) = ((128 : Nat) : Int) := rfl
  rw [e, e2, (bits_nat .u8 8 (by decide) wraps_u8 (n % 256) 128 (by have := Nat.mod_lt n (show 256 > 0 by decide); omega) (by decide)).2, or128_nat _ (by omega)]
  omega

theorem pow_64 : (2 : Int) ^ 64 = 18446744073709551616 := by decide
theorem wraps_u64 (n : Int) (h0 : 0 ≤ n) (h1 : n < 2 ^ 64) : IntKind.u64.wrap n = n := u64_id h0 (by rw [pow_64] at h1; exact h1)
theorem or_comm_u64 (x y : Int) : Go.bits .or .u64 x y = Go.bits .or .u64 y x := by simp [Go.bits, BitVec.or_comm]

theorem and_127 {c : Int} (h0 : 0 ≤ c) (h1 : c ≤ 255) : Go.bits .and .u8 c 127 = c % 128 :=
  bits_mask .u8 8 (by decide) wraps_u8 7 (by decide) c h0 (by omega)

theorem pow_63 : (2 : Int) ^ (7 * 9) = 9223372036854775808 := by decide
theorem pow_56 : (2 : Int) ^ (7 * 8) = 72057594037927936 := by decide
theorem pow_le_56 {i : Nat} (h : i ≤ 8) : (2 : Int) ^ (7 * i) ≤ 72057594037927936 := by
  have : (2 : Nat) ^ (7 * i) ≤ 2 ^ (7 * 8) := Nat.pow_le_pow_right (by decide) (by omega)
  have h2 : ((2 ^ (7 * i) : Nat) : Int) ≤ ((2 ^ (7 * 8) : Nat) : Int) := Int.ofNat_le.2 this
  simpa [Int.natCast_pow] using h2

/-- A part's place. -/
theorem part_lt {i : Nat} (hi : i ≤ 9) {c : Int} (h0 : 0 ≤ c) (h1 : c ≤ 127) (h9 : i = 9 → c ≤ 1) : 0 ≤ c * 2 ^ (7 * i) ∧ c * 2 ^ (7 * i) < 18446744073709551616 := by
  have hp := pow7_pos i
  refine ⟨Int.mul_nonneg h0 (Int.le_of_lt hp), ?_⟩
  by_cases h8 : i ≤ 8
  · have h2 := pow_le_56 h8
    have : c * 2 ^ (7 * i) ≤ 127 * 72057594037927936 := Int.mul_le_mul h1 h2 (Int.le_of_lt hp) (by decide)
    omega
  · have e : i = 9 := by omega
    subst e
    rw [pow_63]
    have := h9 rfl
    omega

theorem step_or {i : Nat} (hi : i ≤ 9) {acc c : Int} (ha0 : 0 ≤ acc) (ha : acc < 2 ^ (7 * i)) (h0 : 0 ≤ c) (h1 : c ≤ 255) (h9 : i = 9 → c ≤ 1) :
    Go.bits .or .u64 acc (IntKind.u64.wrap (IntKind.u64.wrap (Go.bits .and .u8 c 127) * 2 ^ min (wrap64 (7 * (i : Int))).toNat 64)) = acc + c % 128 * 2 ^ (7 * i) := by
  obtain ⟨q0, q1⟩ := part_lt hi (c := c % 128) (by omega) (by omega) (fun h => by have := h9 h; omega)
  have hp := pow7_pos i
  have e1 : IntKind.u64.wrap (c % 128) = c % 128 := u64_id (by omega) (by omega)
  rw [and_127 h0 h1, e1, w64_id (by omega) (by omega)]
  have e : min (7 * (i : Int)).toNat 64 = 7 * i := by omega
  rw [e, u64_id q0 q1, or_comm_u64]
  have hlt : acc < 18446744073709551616 := by
    by_cases h8 : i ≤ 8
    · have := pow_le_56 h8; omega
    · have e : i = 9 := by omega
      subst e
      rw [pow_63] at ha
      omega
  have h64 : (2 : Int) ^ 64 = 18446744073709551616 := by decide
  rw [bits_join .u64 64 (by decide) wraps_u64 (7 * i) (c % 128 * 2 ^ (7 * i)) acc q0 (Int.mul_emod_left _ _) (by rw [h64]; exact q1) ha0 ha (by rw [h64]; exact hlt)]
  omega

theorem step_lt {i : Nat} {acc c : Int} (ha0 : 0 ≤ acc) (ha : acc < 2 ^ (7 * i)) : 0 ≤ acc + c % 128 * 2 ^ (7 * i) ∧ acc + c % 128 * 2 ^ (7 * i) < 2 ^ (7 * (i + 1)) := by
  have hp := pow7_pos i
  have h2 : c % 128 * 2 ^ (7 * i) ≤ 127 * 2 ^ (7 * i) := Int.mul_le_mul_of_nonneg_right (by omega) (Int.le_of_lt hp)
  have h3 : 0 ≤ c % 128 * 2 ^ (7 * i) := Int.mul_nonneg (by omega) (Int.le_of_lt hp)
  rw [pow7]
  omega

/-! ### whole numbers -/
theorem ofInt_nat {x : Int} (h0 : 0 ≤ x) (h : x < 18446744073709551616) : (BitVec.ofInt 64 x).toNat = x.toNat := by
  rw [BitVec.toNat_ofInt, Int.emod_eq_of_lt h0 (by simpa using h)]
theorem xor_zero_u64 {x : Int} (h0 : 0 ≤ x) (h : x < 18446744073709551616) : Go.bits .xor .u64 x 0 = x := by
  show IntKind.u64.wrap ((BitVec.ofInt 64 x ^^^ BitVec.ofInt 64 0).toNat : Int) = x
  have e : BitVec.ofInt 64 0 = 0#64 := by decide
  rw [e, BitVec.xor_zero, ofInt_nat h0 h, Int.toNat_of_nonneg h0, u64_id h0 h]

theorem xor_ones_u64 {x : Int} (h0 : 0 ≤ x) (h : x < 18446744073709551616) : Go.bits .xor .u64 x 18446744073709551615 = 18446744073709551615 - x := by
  show IntKind.u64.wrap ((BitVec.ofInt 64 x ^^^ BitVec.ofInt 64 18446744073709551615).toNat : Int) = _
  have e : BitVec.ofInt 64 18446744073709551615 = BitVec.allOnes 64 := by decide
  rw [e, BitVec.xor_allOnes, BitVec.toNat_not, ofInt_nat h0 h, u64_id (by omega) (by omega)]
  omega

theorem zig_bits {a : Int} (h0 : -9223372036854775808 ≤ a) (h1 : a ≤ 9223372036854775807) :
    Go.bits .xor .u64 (IntKind.u64.wrap (wrap64 (a * 2))) (IntKind.u64.wrap (a / 9223372036854775808)) = (zig a : Int) := by
  unfold zig
  by_cases h : 0 ≤ a
  · rw [if_pos h]
    have e1 : a / 9223372036854775808 = 0 := by omega
    have e2 : IntKind.u64.wrap (wrap64 (a * 2)) = a * 2 := by rw [u64_mod]; unfold wrap64; omega
    rw [e1, e2, u64_id (by omega) (by omega), xor_zero_u64 (by omega) (by omega)]
    omega
  · rw [if_neg h]
    have e1 : a / 9223372036854775808 = -1 := by omega
    have e2 : IntKind.u64.wrap (wrap64 (a * 2)) = a * 2 + 18446744073709551616 := by rw [u64_mod]; unfold wrap64; omega
    have e3 : IntKind.u64.wrap (-1) = 18446744073709551615 := by rw [u64_mod]; decide
    rw [e1, e2, e3, xor_ones_u64 (by omega) (by omega)]
    omega

theorem and_one_u64 {x : Int} (h0 : 0 ≤ x) (h : x < 18446744073709551616) : Go.bits .and .u64 x 1 = x % 2 :=
  bits_mask .u64 64 (by decide) wraps_u64 1 (by decide) x h0 (by have : (2 : Int) ^ 64 = 18446744073709551616 := by decide
                                                                 omega)

theorem i64_w (n : Int) : IntKind.i64.wrap n = wrap64 n := by unfold wrap64; exact IntKind.wrap_i64 n
theorem xor_zero_i64 {x : Int} (h0 : 0 ≤ x) (h : x < 9223372036854775808) : Go.bits .xor .i64 x 0 = x := by
  show IntKind.i64.wrap ((BitVec.ofInt 64 x ^^^ BitVec.ofInt 64 0).toNat : Int) = x
  have e : BitVec.ofInt 64 0 = 0#64 := by decide
  rw [e, BitVec.xor_zero, ofInt_nat h0 (by omega), Int.toNat_of_nonneg h0, i64_w, w64_id (by omega) (by omega)]
theorem xor_ones_i64 {x : Int} (h0 : 0 ≤ x) (h : x < 9223372036854775808) : Go.bits .xor .i64 x (-1) = -x - 1 := by
  show IntKind.i64.wrap ((BitVec.ofInt 64 x ^^^ BitVec.ofInt 64 (-1)).toNat : Int) = _
  have e : BitVec.ofInt 64 (-1) = BitVec.allOnes 64 := by decide
  rw [e, BitVec.xor_allOnes, BitVec.toNat_not, ofInt_nat h0 (by omega), i64_w]
  unfold wrap64
  omega

theorem zag_bits {m : Int} (h0 : 0 ≤ m) (h1 : m < 18446744073709551616) :
    Go.bits .xor .i64 (wrap64 (m / 2)) (wrap64 (-(wrap64 (Go.bits .and .u64 m 1)))) = zag m := by
  rw [and_one_u64 h0 h1, w64_id (by omega) (by omega)]
  unfold zag
  by_cases h : m % 2 = 0
  · rw [if_pos h, h]
    have : wrap64 (-wrap64 0) = 0 := by unfold wrap64; decide
    rw [this, xor_zero_i64 (by omega) (by omega)]
  · have e : m % 2 = 1 := by omega
    rw [if_neg h, e]
    have : wrap64 (-wrap64 1) = -1 := by unfold wrap64; decide
    rw [this, xor_ones_i64 (by omega) (by omega)]

/-! ### lists of bytes and their strings -/
def Bs (xs : List Int) : Prop := ∀ x ∈ xs, 0 ≤ x ∧ x ≤ 255
theorem vput_bs (n : Nat) : Bs (vput n) := fun _ h => vput_byte h
theorem Bs.take {xs : List Int} (h : Bs xs) (n : Nat) : Bs (xs.take n) := fun x hx => h x (List.mem_of_mem_take hx)
theorem Bs.drop {xs : List Int} (h : Bs xs) (n : Nat) : Bs (xs.drop n) := fun x hx => h x (List.mem_of_mem_drop hx)
theorem Bs.append {xs ys : List Int} (h : Bs xs) (k : Bs ys) : Bs (xs ++ ys) := fun x hx => by
  rcases List.mem_append.1 hx with hx | hx
  · exact h x hx
  · exact k x hx
theorem bs_wf {xs : List Int} (h : ∀ x ∈ xs, (Lit.int .u8 x).wf = true) : Bs xs := fun x hx => bounds_u8 (h x hx)

theorem byte_inj {x y : Int} (hx : 0 ≤ x ∧ x ≤ 255) (hy : 0 ≤ y ∧ y ≤ 255) (h : UInt8.ofNat x.toNat = UInt8.ofNat y.toNat) : x = y := by
  have e := congrArg UInt8.toNat h
  simp only [UInt8.toNat_ofNat'] at e
  omega

theorem bytesOf_inj : ∀ {xs ys : List Int}, Bs xs → Bs ys → Lib.bytesOf xs = Lib.bytesOf ys → xs = ys
  | [], [], _, _, _ => rfl
  | [], _ :: _, _, _, h => by simp [Lib.bytesOf] at h
  | _ :: _, [], _, _, h => by simp [Lib.bytesOf] at h
  | x :: xs, y :: ys, hx, hy, h => by
    simp only [Lib.bytesOf, List.map_cons, List.cons.injEq] at h
    rw [byte_inj (hx x (by simp)) (hy y (by simp)) h.1, bytesOf_inj (fun a ha => hx a (by simp [ha])) (fun a ha => hy a (by simp [ha])) h.2]

theorem str_eq {xs ys : List Int} (hx : Bs xs) (hy : Bs ys) : (strOfNums xs).toList = (strOfNums ys).toList ↔ xs = ys := by
  rw [Lib.strOfNums_toList, Lib.strOfNums_toList]
  exact ⟨bytesOf_inj hx hy, fun h => by rw [h]⟩

theorem vput_300 : vput 300 = [172, 2] := by rw [vput_big (by decide), vput_small (by decide)]; rfl
theorem vput_1 : vput 1 = [1] := vput_small (by decide)
theorem vget_ex : vget [172, 2, 9] = (300, 2, 0) := by decide
theorem str_ex2 : (strOfNums [172, 2]).toList = ([172, 2] : List UInt8) := by rw [Lib.strOfNums_toList]; decide
theorem str_ex1 : (strOfNums [1]).toList = ([1] : List UInt8) := by rw [Lib.strOfNums_toList]; decide
end Go.Proofs.Ytnoeeiaffnbhcaa.V
