/- Cyclic sums in plain bits: the table's step is eight single steps, steps are linear and one to one, and what differs in a window of 32 bits sums to another number. Conditions: none. -/
import Derived.Laws.BitsLemmas
import Derived.Test.YtnlibeaainbipaaZ2
import Derived.Test.YtnlibeaainbipaaMfnc
import Derived.Test.YtnlibeaainbipaaZ4
import Derived.Laws.LoneSync
namespace Go.Proofs.Ytnlibeaainbipaa.V

abbrev W32 := BitVec 32
def poly : W32 := 3988292384#32
def one (x : W32) : W32 := (x >>> 1) ^^^ (if x.getLsbD 0 then poly else 0#32)
def eight (x : W32) : W32 := one (one (one (one (one (one (one (one x)))))))

theorem one_xor (x y : W32) : one (x ^^^ y) = one x ^^^ one y := by
  unfold one
  rw [BitVec.ushiftRight_xor_distrib, BitVec.getLsbD_xor]
  generalize x >>> 1 = a
  generalize y >>> 1 = b
  cases x.getLsbD 0 <;> cases y.getLsbD 0 <;> ext i hi <;> simp [BitVec.getElem_xor] <;> cases a[i] <;> cases b[i] <;> cases poly[i] <;> rfl
theorem eight_xor (x y : W32) : eight (x ^^^ y) = eight x ^^^ eight y := by unfold eight; simp only [one_xor]

theorem one_low {x : W32} (h : x.getLsbD 0 = false) : one x = x >>> 1 := by
  unfold one
  rw [h]
  simp
theorem eight_low {x : W32} (h : ∀ i, i < 8 → x.getLsbD i = false) : eight x = x >>> 8 := by
  have step : ∀ k, k < 8 → one (x >>> k) = x >>> (k + 1) := by
    intro k hk
    rw [one_low (by rw [BitVec.getLsbD_ushiftRight]; simpa using h k hk), ← BitVec.shiftRight_add]
  have e0 : one x = x >>> 1 := by simpa using step 0 (by decide)
  unfold eight
  rw [e0, step 1 (by decide), step 2 (by decide), step 3 (by decide), step 4 (by decide), step 5 (by decide), step 6 (by decide), step 7 (by decide)]

/-- A byte as a word. -/
def wd (b : BitVec 8) : W32 := b.setWidth 32
theorem split_low (x : W32) : x = wd (x.setWidth 8) ^^^ ((x >>> 8) <<< 8) := by
  unfold wd
  ext i hi
  simp only [BitVec.getElem_xor, BitVec.getElem_setWidth, BitVec.getLsbD_setWidth, BitVec.getElem_shiftLeft, BitVec.getElem_ushiftRight]
  by_cases h : i < 8
  · simp [h, BitVec.getLsbD_eq_getElem hi]
  · have : 8 + (i - 8) = i := by omega
    simp [h, this, BitVec.getLsbD_eq_getElem hi]
/-- The table's step. -/
theorem eight_table (x : W32) : eight x = eight (wd (x.setWidth 8)) ^^^ (x >>> 8) := by
  have h : eight ((x >>> 8) <<< 8) = x >>> 8 := by
    rw [eight_low]
    · ext i hi
      simp only [BitVec.getElem_ushiftRight, BitVec.getLsbD_shiftLeft, BitVec.getLsbD_ushiftRight]
      by_cases h : 8 + i < 32
      · simp [h]
      · have : x.getLsbD (8 + i) = false := BitVec.getLsbD_of_ge _ _ (by omega)
        simp [h, this]
    · intro i hi
      simp [hi]
  calc eight x = eight (wd (x.setWidth 8) ^^^ ((x >>> 8) <<< 8)) := congrArg eight (split_low x)
    _ = _ := by rw [eight_xor, h]

theorem table_step (x : W32) (b : BitVec 8) : eight (wd (x.setWidth 8 ^^^ b)) ^^^ (x >>> 8) = eight (x ^^^ wd b) := by
  rw [eight_table (x ^^^ wd b)]
  congr 1
  · congr 2
    ext i hi
    simp [wd]
  · rw [BitVec.ushiftRight_xor_distrib]
    have : wd b >>> 8 = 0#32 := by
      ext i hi
      simp [wd]
    rw [this]
    simp

/-! ### bytes -/
def run (x : W32) (bs : List (BitVec 8)) : W32 := bs.foldl (fun x b => eight (x ^^^ wd b)) x
def more (s : W32) (bs : List (BitVec 8)) : W32 := ~~~ (run (~~~ s) bs)
theorem more_append (s : W32) (a b : List (BitVec 8)) : more (more s a) b = more s (a ++ b) := by
  unfold more run
  rw [BitVec.not_not, List.foldl_append]
theorem not_inj {x y : W32} : (~~~ x = ~~~ y) ↔ x = y := by
  constructor
  · intro h
    have := congrArg (~~~ ·) h
    simpa using this
  · intro h; rw [h]
end Go.Proofs.Ytnlibeaainbipaa.V

/- The machine's whole numbers and plain bits. Conditions: none. -/
namespace Go.Proofs.Ytnlibeaainbipaa.F
open Go.RowKit Go.Proofs.Ytnlibeaainbipaa.M Go.Proofs.Ytnlibeaainbipaa.V
set_option linter.unusedSimpArgs false

/-- A word, a byte as the machine holds it. -/
abbrev wi (x : W32) : Int := (x.toNat : Int)
abbrev bi (x : BitVec 8) : Int := (x.toNat : Int)
theorem wrap32 (x : W32) : IntKind.u32.wrap (x.toNat : Int) = x.toNat := by rw [IntKind.wrap_u32]; have := x.isLt; omega
theorem wrap8 (x : BitVec 8) : IntKind.u8.wrap (x.toNat : Int) = x.toNat := by rw [IntKind.wrap_u8]; have := x.isLt; omega
theorem x32 (x y : W32) : bits .xor .u32 (wi x) (wi y) = wi (x ^^^ y) := by
  simp only [bits, BitVec.ofInt_natCast, BitVec.toNat_xor, BitVec.toNat_ofNat]
  have e : ∀ z : W32, z.toNat % 2 ^ IntKind.u32.bits = z.toNat := fun z => Nat.mod_eq_of_lt z.isLt
  rw [e x, e y, ← BitVec.toNat_xor]
  exact wrap32 _
theorem a32 (x y : W32) : bits .and .u32 (wi x) (wi y) = wi (x &&& y) := by
  simp only [bits, BitVec.ofInt_natCast, BitVec.toNat_and, BitVec.toNat_ofNat]
  have e : ∀ z : W32, z.toNat % 2 ^ IntKind.u32.bits = z.toNat := fun z => Nat.mod_eq_of_lt z.isLt
  rw [e x, e y, ← BitVec.toNat_and]
  exact wrap32 _
theorem x8 (x y : BitVec 8) : bits .xor .u8 (bi x) (bi y) = bi (x ^^^ y) := by
  simp only [bits, BitVec.ofInt_natCast, BitVec.toNat_xor, BitVec.toNat_ofNat]
  have e : ∀ z : BitVec 8, z.toNat % 2 ^ IntKind.u8.bits = z.toNat := fun z => Nat.mod_eq_of_lt z.isLt
  rw [e x, e y, ← BitVec.toNat_xor]
  exact wrap8 _
theorem xpoly (x : W32) : bits .xor .u32 (wi x) 3988292384 = wi (x ^^^ poly) := x32 x poly
theorem xall (x : W32) : bits .xor .u32 (wi x) 4294967295 = wi (~~~ x) := by
  have : ~~~ x = x ^^^ 4294967295#32 := by rw [show (4294967295#32 : W32) = BitVec.allOnes 32 from rfl, BitVec.xor_allOnes]
  rw [this]; exact x32 x 4294967295#32
theorem xall' (x : W32) : bits .xor .u32 4294967295 (wi x) = wi (~~~ x) := by
  have : ~~~ x = 4294967295#32 ^^^ x := by rw [show (4294967295#32 : W32) = BitVec.allOnes 32 from rfl, BitVec.xor_comm, BitVec.xor_allOnes]
  rw [this]; exact x32 4294967295#32 x
theorem aone (x : W32) : bits .and .u32 (wi x) 1 = wi (x &&& 1#32) := a32 x 1#32
theorem low_bit (x : W32) : (wi (x &&& 1#32) == 1) = x.getLsbD 0 := by
  have : (x &&& 1#32).toNat = (x.getLsbD 0).toNat := by
    rw [BitVec.toNat_and, show (1#32 : W32).toNat = 1 from rfl, Nat.and_one_is_mod, BitVec.getLsbD, Nat.testBit_zero]
    rcases Nat.mod_two_eq_zero_or_one x.toNat with h | h <;> rw [h] <;> rfl
  rw [wi, this]
  cases x.getLsbD 0 <;> rfl
theorem half (x : W32) : wi x / (2 : Int) = wi (x >>> 1) := by
  rw [wi, wi, BitVec.toNat_ushiftRight, Nat.shiftRight_eq_div_pow]; omega
theorem shr8 (x : W32) : wi x / (256 : Int) = wi (x >>> 8) := by
  rw [wi, wi, BitVec.toNat_ushiftRight, Nat.shiftRight_eq_div_pow]; omega
theorem to8 (x : W32) : IntKind.u8.wrap (wi x) = bi (x.setWidth 8) := by
  rw [IntKind.wrap_u8, wi, bi, BitVec.toNat_setWidth]; omega
theorem to32 (b : BitVec 8) : IntKind.u32.wrap (bi b) = wi (wd b) := by
  rw [IntKind.wrap_u32, bi, wi, wd, BitVec.toNat_setWidth]; have := b.isLt; omega
theorem one_on {x : W32} (h : x.getLsbD 0 = true) : one x = (x >>> 1) ^^^ poly := by unfold one; rw [h]; rfl
theorem one_off {x : W32} (h : x.getLsbD 0 = false) : one x = x >>> 1 := one_low h
def ones : Nat → W32 → W32
  | 0, x => x
  | j + 1, x => one (ones j x)
theorem ones8 (x : W32) : ones 8 x = eight x := rfl

def byts (bs : List (BitVec 8)) : List Int := bs.map bi
theorem byts_len (bs : List (BitVec 8)) : (byts bs).length = bs.length := List.length_map _
theorem run_take {x : W32} {bs : List (BitVec 8)} {i : Nat} (h : i < bs.length) : V.run x (bs.take (i + 1)) = eight (V.run x (bs.take i) ^^^ wd bs[i]) := by
  unfold V.run
  rw [List.take_succ_eq_append_getElem h, List.foldl_append]
  rfl
theorem RdI.byte {w : World} {A : Option Addr} {bs : List (BitVec 8)} (h : RdI w .u8 A (byts bs)) {i : Nat} (hi : i < bs.length) : ∃ ad, A = some ad ∧ w.cell? (ad.add i) = some (.int .u8 (bi bs[i])) := by
  refine h i _ ?_
  unfold byts
  rw [List.getElem?_map, List.getElem?_eq_getElem hi]; rfl
end Go.Proofs.Ytnlibeaainbipaa.F

/- The table is made; the flag is stored and looked at. Conditions: the Summer's block may be written. -/
namespace Go.Proofs.Ytnlibeaainbipaa.F
open Go.RowKit Go.Proofs.Ytnlibeaainbipaa.M Go.Proofs.Ytnlibeaainbipaa.V
set_option linter.unusedSimpArgs false
set_option linter.unusedVariables false
set_option maxRecDepth 20000

/-- A Summer's cells: done, the lock's state, its waiters, made, the table. -/
def sumL (d st sm mk : Int) (tab : List Int) : List Value := .int .u32 d :: .int .i32 st :: .int .u32 sm :: .int .u32 mk :: tab.map (Value.int .u32)
def sumC (d st sm mk : Int) (tab : List Int) : Array Value := (sumL d st sm mk tab).toArray
theorem add_off (g o i : Nat) : (⟨g, o, none⟩ : Addr).add i = ⟨g, o + i, none⟩ := by unfold Addr.add; split <;> simp_all

section
variable {w : World} {g d' : Nat} {d st sm mk : Int} {tab : List Int}
theorem sum_at (h : Blk w g 89 (sumC d st sm mk tab)) (i : Nat) : w.cell? (At g i) = (sumL d st sm mk tab)[i]? := by rw [h.cell]; simp [sumC]
theorem sum_tab (h : Blk w g 89 (sumC d st sm mk tab)) {i : Nat} {x : Int} (hx : tab[i]? = some x) : w.cell? (At g (4 + i)) = some (.int .u32 x) := by
  rw [sum_at h, show 4 + i = i + 4 by omega]
  simp [sumL, hx]
theorem set_tab (d st sm mk : Int) (tab : List Int) (i : Nat) (x : Int) : (sumC d st sm mk tab).setIfInBounds (4 + i) (.int .u32 x) = sumC d st sm mk (tab.set i x) := by
  rw [show 4 + i = i + 4 by omega]
  simp [sumC, sumL, List.map_set]
theorem set_done (d st sm mk x : Int) (tab : List Int) : (sumC d st sm mk tab).setIfInBounds 0 (.int .u32 x) = sumC x st sm mk tab := by simp [sumC, sumL]
theorem set_lock (d st sm mk x : Int) (tab : List Int) : (sumC d st sm mk tab).setIfInBounds 1 (.int .i32 x) = sumC d x sm mk tab := by simp [sumC, sumL]
theorem set_made (d st sm mk x : Int) (tab : List Int) : (sumC d st sm mk tab).setIfInBounds 3 (.int .u32 x) = sumC d st sm x tab := by simp [sumC, sumL]
end

def crcTab : List Int := (List.range 256).map fun i => wi (eight (BitVec.ofNat 32 i))
theorem crcTab_at {i : Nat} (h : i < 256) : crcTab[i]? = some (wi (eight (BitVec.ofNat 32 i))) := by simp [crcTab, h]

theorem b32_calls (w : World) : callK Try.prog 85 #[.bool true] w fun v w' => v = .int .u32 1 ∧ w' = w := by
  refine callK_of Try.func85 c85 r85 (by exact Nat.le_of_ble_eq_true rfl) ?_
  rw [m85]
  simp -implicitDefEqProofs only [go_sem, seval]
  exact ⟨trivial, trivial⟩

theorem store_calls {a : Addr} {x : Value} {w : World} (hc : w.cell? a = some x) (hz : w.frozen? a = false) : callK Try.prog 72 #[.pointer (some a), .bool true] w fun v w' => v = .tuple #[] ∧ w' = w.drew.setCell a (.int .u32 1) := by
  refine callK_of Try.func72 c72 r72 (by exact Nat.le_of_ble_eq_true rfl) ?_
  rw [m72]
  simp -implicitDefEqProofs only [go_sem, seval, add_zero']
  refine (b32_calls _).mono ?_
  rintro v w' ⟨rfl, rfl⟩
  simp -implicitDefEqProofs only [go_sem, seval]
  refine ext_intro (by kernel_rfl) (run_call_store (P := Try.prog) Try.func84 (by kernel_rfl) (by kernel_rfl) (by kernel_rfl) (by kernel_rfl) (k := .u32) (y := 1) (u := x) hc hz) ?_
  simp -implicitDefEqProofs only [go_sem, seval]
  exact ⟨trivial, trivial⟩

theorem load_calls {a : Addr} {x : Int} {w : World} (hc : w.cell? a = some (.int .u32 x)) : callK Try.prog 70 #[.pointer (some a)] w fun v w' => v = .bool (x != 0) ∧ w' = w := by
  refine callK_of Try.func70 c70 r70 (by exact Nat.le_of_ble_eq_true rfl) ?_
  rw [m70]
  simp -implicitDefEqProofs only [go_sem, seval, add_zero']
  refine ext_intro (by kernel_rfl) (run_call_load (P := Try.prog) Try.func81 (by kernel_rfl) (by kernel_rfl) (by kernel_rfl) .u32 (by kernel_rfl) hc) ?_
  simp -implicitDefEqProofs only [go_sem, seval]
  exact ⟨trivial, trivial⟩

theorem make_calls {w : World} {g : Nat} {d st sm mk : Int} {tab : List Int} (h : Blk w g 89 (sumC d st sm mk tab)) (ht : tab.length = 256) :
    callK Try.prog 44 #[.pointer (some (At g 0))] w fun v w' => v = .tuple #[] ∧ Blk w' g 89 (sumC d st sm 1 crcTab) ∧ Fx (only g) w w' := by
  refine callK_of Try.func44 c44 r44 (by exact Nat.le_of_ble_eq_true rfl) ?_
  rw [m44]
  simp -implicitDefEqProofs only [go_sem, seval]
  refine loop_intro (fun k f w' => ∃ (i : Nat) (tab' : List Int), k = 256 - i ∧ i ≤ 256 ∧ f 0 = .pointer (some (At g 0)) ∧ f 4 = .int .i64 i ∧ tab'.length = 256 ∧ (∀ j, j < i → tab'[j]? = crcTab[j]?) ∧ Blk w' g 89 (sumC d st sm mk tab') ∧ Fx (only g) w w') 256
    ⟨0, tab, rfl, by omega, by simp -implicitDefEqProofs only [go_sem, seval], by simp -implicitDefEqProofs only [go_sem, seval] <;> rfl, ht, fun j hj => by omega, h, Fx.refl _ _⟩ ?_
  rintro k f w1 ⟨i, tab', rfl, hi, h0, h4, hlen, htab, hB, hF⟩
  by_cases hlt : i < 256
  · have i0 : (0 : Int) ≤ (i : Int) := by omega
    have i1 : (i : Int) < 256 := by omega
    have e0 : IntKind.u32.wrap (i : Int) = wi (BitVec.ofNat 32 i) := by
      rw [IntKind.wrap_u32, wi, BitVec.toNat_ofNat]; omega
    simp -implicitDefEqProofs only [go_sem, seval, h0, h4, i1, e0]
    refine loop_intro (fun k f w' => ∃ j : Nat, k = 8 - j ∧ j ≤ 8 ∧ f 0 = .pointer (some (At g 0)) ∧ f 4 = .int .i64 i ∧ f 2 = .int .i64 i ∧ f 3 = .int .u32 (wi (ones j (BitVec.ofNat 32 i))) ∧ f 9 = .int .i64 j ∧ w' = w1) 8
      ⟨0, rfl, by omega, by simp -implicitDefEqProofs only [go_sem, seval, h0], by simp -implicitDefEqProofs only [go_sem, seval, h4], by simp -implicitDefEqProofs only [go_sem, seval], by simp -implicitDefEqProofs only [go_sem, seval] <;> rfl, by simp -implicitDefEqProofs only [go_sem, seval] <;> rfl, rfl⟩ ?_
    rintro k f2 w2 ⟨j, rfl, hj, g0, g4, g2, g3, g9, rfl⟩
    by_cases h8 : j < 8
    · have j1 : (j : Int) < 8 := by omega
      have e3 : IntKind.i64.wrap ((j : Int) + 1) = ((j + 1 : Nat) : Int) := i64_nat (by omega) (by omega)
      have hs : ones (j + 1) (BitVec.ofNat 32 i) = one (ones j (BitVec.ofNat 32 i)) := rfl
      generalize ones j (BitVec.ofNat 32 i) = y at *
      have e4 := aone y
      have e5 := low_bit y
      have e6 := half y
      cases hb : y.getLsbD 0 with
      | true =>
        have e7 := xpoly (y >>> 1)
        have e8 := one_on hb
        rw [hb] at e5
        simp -implicitDefEqProofs only [go_sem, seval, g0, g4, g2, g3, g9, j1, e4, e5, e6, e7, e3]
        refine ⟨8 - (j + 1), by omega, j + 1, rfl, by omega, by simp -implicitDefEqProofs only [go_sem, seval, g0], by simp -implicitDefEqProofs only [go_sem, seval, g4], by simp -implicitDefEqProofs only [go_sem, seval, g2], ?_, by simp -implicitDefEqProofs only [go_sem, seval], rfl⟩
        rw [hs, e8]; simp -implicitDefEqProofs only [go_sem, seval, e6, e7]
      | false =>
        have e8 := one_off hb
        rw [hb] at e5
        simp -implicitDefEqProofs only [go_sem, seval, g0, g4, g2, g3, g9, j1, e4, e5, e6, e3]
        refine ⟨8 - (j + 1), by omega, j + 1, rfl, by omega, by simp -implicitDefEqProofs only [go_sem, seval, g0], by simp -implicitDefEqProofs only [go_sem, seval, g4], by simp -implicitDefEqProofs only [go_sem, seval, g2], ?_, by simp -implicitDefEqProofs only [go_sem, seval], rfl⟩
        rw [hs, e8]; simp -implicitDefEqProofs only [go_sem, seval, e6]
    · have hj8 : j = 8 := by omega
      have j1 : ¬ (j : Int) < 8 := by omega
      have e3 : IntKind.i64.wrap ((i : Int) + 1) = ((i + 1 : Nat) : Int) := i64_nat (by omega) (by omega)
      rw [hj8, ones8] at g3
      have hcell : w2.cell? (At g (4 + i)) = some (.int .u32 (tab'[i]'(by omega))) := sum_tab hB (List.getElem?_eq_getElem (by omega))
      have hsome : (w2.cell? (At g (4 + i))).isSome = true := by rw [hcell]; rfl
      have hfz : w2.frozen? (At g (4 + i)) = false := hB.frozen _
      simp -implicitDefEqProofs only [go_sem, seval, g0, g4, g2, g3, g9, j1, e3, i0, i1, add_off, hsome, hfz]
      refine ⟨256 - (i + 1), by omega, i + 1, tab'.set i (wi (eight (BitVec.ofNat 32 i))), rfl, by omega, by simp -implicitDefEqProofs only [go_sem, seval, g0], by simp -implicitDefEqProofs only [go_sem, seval], by simp [hlen], ?_, ?_, hF.trans (Fx.set (m := only g) w2 (At g (4 + i)) _ rfl) (fun _ _ h => h)⟩
      · intro j' hj'
        by_cases hjj : j' = i
        · subst hjj
          rw [List.getElem?_set_self (by omega), crcTab_at hlt]
        · rw [List.getElem?_set_ne (Ne.symm hjj), htab j' (by omega)]
      · rw [← set_tab]
        exact hB.set _ _
  · have hi' : i = 256 := by omega
    have i1 : ¬ (i : Int) < 256 := by omega
    have htt : tab' = crcTab := by
      refine List.ext_getElem? fun j => ?_
      by_cases hj : j < 256
      · exact htab j (by omega)
      · rw [List.getElem?_eq_none (by omega), List.getElem?_eq_none (by simp [crcTab]; omega)]
    subst htt
    simp -implicitDefEqProofs only [go_sem, seval, h0, h4, i1]
    refine (store_calls (x := .int .u32 mk) (sum_at hB 3) (hB.frozen 3)).mono ?_
    rintro v w' ⟨rfl, rfl⟩
    simp -implicitDefEqProofs only [go_sem, seval]
    refine ⟨trivial, ?_, (hF.trans (Fx.drew _ w1) (fun _ _ h => h)).trans (Fx.set (m := only g) w1.drew (At g 3) _ rfl) (fun _ _ h => h)⟩
    rw [← set_made d st sm mk 1 crcTab]
    exact (Blk.drew hB).set 3 _
end Go.Proofs.Ytnlibeaainbipaa.F

/- The document's own sum, by single bits. Conditions: the slice's places hold the bytes. -/
namespace Go.Proofs.Ytnlibeaainbipaa.F
open Go.RowKit Go.Proofs.Ytnlibeaainbipaa.M Go.Proofs.Ytnlibeaainbipaa.V
set_option linter.unusedSimpArgs false
set_option linter.unusedVariables false
set_option maxRecDepth 20000

end Go.Proofs.Ytnlibeaainbipaa.F
