/- The machine's whole numbers and plain bits. Conditions: none. -/
import Derived.Test.YtkndmcaeppajmaaCpure
import Derived.Test.YtkndmcaeppajmaaMstr
import Derived.Test.YtkndmcaeppajmaaMfns
namespace Go.Proofs.Ytkndmcaeppajmaa.F
open Go.RowKit Go.Proofs.Ytkndmcaeppajmaa.M Go.Proofs.Ytkndmcaeppajmaa.V
set_option linter.unusedSimpArgs false

/-- A word, a byte as the machine holds it. -/
abbrev wi (x : W32) : Int := (x.toNat : Int)
abbrev bi (x : BitVec 8) : Int := (x.toNat : Int)
theorem wrap32 (x : W32) : IntKind.u32.wrap (x.toNat : Int) = x.toNat := by rw [IntKind.wrap_u32]; have := x.isLt; omega
theorem wrap8 (x : BitVec 8) : IntKind.u8.wrap (x.toNat : Int) = x.toNat := by rw [IntKind.wrap_u8]; have := x.isLt; omega
theorem x32 (x y : W32) : bits .xor .u32 (wi x) (wi y) = wi (x ^^^ y) := by
  simp only [bits, BitVec.ofInt_natCast, BitVec.toNat_xor, BitVec.toNat_ofNat]
  have e : ∀ z : W32, z.toNat % 2 ^ IntKind.u32.bits = z.toNat := fun z => Nat.mod_eq_of_lt z.isLt
  rw [e x, e y, ← BitVec.toNat_xor]
  exact wrap32 _
theorem a32 (x y : W32) : bits .and .u32 (wi x) (wi y) = wi (x &&& y) := by
  simp only [bits, BitVec.ofInt_natCast, BitVec.toNat_and, BitVec.toNat_ofNat]
  have e : ∀ z : W32, z.toNat % 2 ^ IntKind.u32.bits = z.toNat := fun z => Nat.mod_eq_of_lt z.isLt
  rw [e x, e y, ← BitVec.toNat_and]
  exact wrap32 _
theorem x8 (x y : BitVec 8) : bits .xor .u8 (bi x) (bi y) = bi (x ^^^ y) := by
  simp only [bits, BitVec.ofInt_natCast, BitVec.toNat_xor, BitVec.toNat_ofNat]
  have e : ∀ z : BitVec 8, z.toNat % 2 ^ IntKind.u8.bits = z.toNat := fun z => Nat.mod_eq_of_lt z.isLt
  rw [e x, e y, ← BitVec.toNat_xor]
  exact wrap8 _
theorem xpoly (x : W32) : bits .xor .u32 (wi x) 3988292384 = wi (x ^^^ poly) := x32 x poly
theorem xall (x : W32) : bits .xor .u32 (wi x) 4294967295 = wi (~~~ x) := by
  have : ~~~ x = x ^^^ 4294967295#32 := by rw [show (4294967295#32 : W32) = BitVec.allOnes 32 from rfl, BitVec.xor_allOnes]
  rw [this]; exact x32 x 4294967295#32
theorem xall' (x : W32) : bits .xor .u32 4294967295 (wi x) = wi (~~~ x) := by
  have : ~~~ x = 4294967295#32 ^^^ x := by rw [show (4294967295#32 : W32) = BitVec.allOnes 32 from rfl, BitVec.xor_comm, BitVec.xor_allOnes]
  rw [this]; exact x32 4294967295#32 x
theorem aone (x : W32) : bits .and .u32 (wi x) 1 = wi (x &&& 1#32) := a32 x 1#32
theorem low_bit (x : W32) : (wi (x &&& 1#32) == 1) = x.getLsbD 0 := by
  have : (x &&& 1#32).toNat = (x.getLsbD 0).toNat := by
    rw [BitVec.toNat_and, show (1#32 : W32).toNat = 1 from rfl, Nat.and_one_is_mod, BitVec.getLsbD, Nat.testBit_zero]
    rcases Nat.mod_two_eq_zero_or_one x.toNat with h | h <;> rw [h] <;> rfl
  rw [wi, this]
  cases x.getLsbD 0 <;> rfl
theorem half (x : W32) : wi x / (2 : Int) = wi (x >>> 1) := by
  rw [wi, wi, BitVec.toNat_ushiftRight, Nat.shiftRight_eq_div_pow]; omega
theorem shr8 (x : W32) : wi x / (256 : Int) = wi (x >>> 8) := by
  rw [wi, wi, BitVec.toNat_ushiftRight, Nat.shiftRight_eq_div_pow]; omega
theorem to8 (x : W32) : IntKind.u8.wrap (wi x) = bi (x.setWidth 8) := by
  rw [IntKind.wrap_u8, wi, bi, BitVec.toNat_setWidth]; omega
theorem to32 (b : BitVec 8) : IntKind.u32.wrap (bi b) = wi (wd b) := by
  rw [IntKind.wrap_u32, bi, wi, wd, BitVec.toNat_setWidth]; have := b.isLt; omega
theorem one_on {x : W32} (h : x.getLsbD 0 = true) : one x = (x >>> 1) ^^^ poly := by unfold one; rw [h]; rfl
theorem one_off {x : W32} (h : x.getLsbD 0 = false) : one x = x >>> 1 := one_low h
def ones : Nat → W32 → W32
  | 0, x => x
  | j + 1, x => one (ones j x)
theorem ones8 (x : W32) : ones 8 x = eight x := rfl

def byts (bs : List (BitVec 8)) : List Int := bs.map bi
theorem byts_len (bs : List (BitVec 8)) : (byts bs).length = bs.length := List.length_map _
theorem run_take {x : W32} {bs : List (BitVec 8)} {i : Nat} (h : i < bs.length) : V.run x (bs.take (i + 1)) = eight (V.run x (bs.take i) ^^^ wd bs[i]) := by
  unfold V.run
  rw [List.take_succ_eq_append_getElem h, List.foldl_append]
  rfl
theorem RdI.byte {w : World} {A : Option Addr} {bs : List (BitVec 8)} (h : RdI w .u8 A (byts bs)) {i : Nat} (hi : i < bs.length) : ∃ ad, A = some ad ∧ w.cell? (ad.add i) = some (.int .u8 (bi bs[i])) := by
  refine h i _ ?_
  unfold byts
  rw [List.getElem?_map, List.getElem?_eq_getElem hi]; rfl
theorem i64_nat {n : Int} (h0 : 0 ≤ n) (h : n ≤ 9223372036854775807) : IntKind.i64.wrap n = n := by rw [IntKind.wrap_i64]; omega
end Go.Proofs.Ytkndmcaeppajmaa.F
