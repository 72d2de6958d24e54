/- A Summer's sums, and a new Summer. Conditions: its block is as New or as a first use left it; the slice's places hold the bytes, in another block. -/
import Derived.Test.YtnlibeaainbipaaFslow
import Derived.Test.YtnlibeaainbipaaZ5
namespace Go.Proofs.Ytnlibeaainbipaa.F
open Go.RowKit Go.Proofs.Ytnlibeaainbipaa.M Go.Proofs.Ytnlibeaainbipaa.V
set_option linter.unusedSimpArgs false
set_option linter.unusedVariables false
set_option maxRecDepth 20000

theorem wd_nat (z : BitVec 8) : wd z = BitVec.ofNat 32 z.toNat := by
  unfold wd
  apply BitVec.eq_of_toNat_eq
  rw [BitVec.toNat_setWidth, BitVec.toNat_ofNat]

def Sum (w : World) (g : Nat) : Prop := Fresh w g ∨ Ready w g
theorem Sum.fx {w w' : World} {g : Nat} {m : Nat → Prop} (h : Sum w g) (hf : Fx m w w') (hn : ¬ m g) : Sum w' g := by
  rcases h with h | h
  · exact .inl (hf.blk h hn)
  · exact .inr (hf.blk h hn)

theorem rdI_lt {w : World} {kd : IntKind} {A : Option Addr} {xs : List Int} (h : RdI w kd A xs) (hx : xs ≠ []) : ∀ ad, A = some ad → ad.block < w.heap.size := by
  intro ad hA
  cases xs with
  | nil => exact absurd rfl hx
  | cons x xs =>
    obtain ⟨ad', e, hc⟩ := h 0 x rfl
    rw [hA] at e
    cases e
    have hb : (ad.add 0).block = ad.block := by unfold Addr.add; split <;> rfl
    have := World.block_lt_of_cell? w _ hc
    rw [hb] at this
    exact this
theorem rdI_fx {kd : IntKind} {m : Nat → Prop} {w w' : World} {A : Option Addr} {xs : List Int} (h : RdI w kd A xs) (hf : Fx m w w') (hn : xs ≠ [] → ∀ ad, A = some ad → ¬ m ad.block) : RdI w' kd A xs := by
  by_cases hx : xs = []
  · subst hx
    exact fun j x hx => by simp at hx
  · exact h.fx hf (hn hx)
/-- The bytes of a slice do not stand in block g. -/
def Off (A : Option Addr) (bs : List (BitVec 8)) (g : Nat) : Prop := byts bs ≠ [] → ∀ ad, A = some ad → ad.block ≠ g
theorem off_new {w : World} {A : Option Addr} {bs : List (BitVec 8)} (h : RdI w .u8 A (byts bs)) {g : Nat} (hg : w.heap.size ≤ g) : Off A bs g := fun hx ad hA e => by
  have := rdI_lt h hx ad hA
  omega
theorem byts_of : ∀ {xs : List Int}, (∀ x ∈ xs, 0 ≤ x ∧ x ≤ 255) → ∃ bs, xs = byts bs
  | [], _ => ⟨[], rfl⟩
  | x :: xs, h => by
    obtain ⟨bs, e⟩ := byts_of (xs := xs) (fun y hy => h y (by simp [hy]))
    obtain ⟨h0, h1⟩ := h x (by simp)
    refine ⟨BitVec.ofNat 8 x.toNat :: bs, ?_⟩
    have : bi (BitVec.ofNat 8 x.toNat) = x := by rw [bi, BitVec.toNat_ofNat]; omega
    rw [e]
    simp [byts, this]

theorem more_calls {w : World} {g : Nat} (h : Sum w g) (s : W32) {bs : List (BitVec 8)} {A : Option Addr} {c : Nat} (hr : RdI w .u8 A (byts bs)) (hn : Off A bs g) (hl : bs.length ≤ 9223372036854775807) :
    callK Try.prog 31 #[.pointer (some (At g 0)), .int .u32 (wi s), .slice A bs.length c] w fun v w' => v = .int .u32 (wi (more s bs)) ∧ Ready w' g ∧ Fx (only g) w w' := by
  refine callK_of Try.func31 c31 r31 (by exact Nat.le_of_ble_eq_true rfl) ?_
  rw [m31]
  simp -implicitDefEqProofs only [go_sem, seval, add_zero']
  refine (do_calls h).mono ?_
  rintro v w1 ⟨rfl, hR, hF⟩
  have hr1 := rdI_fx hr hF hn
  have e0 := xall' s
  simp -implicitDefEqProofs only [go_sem, seval, e0]
  refine loop_intro (fun k f w' => ∃ i : Nat, k = bs.length - i ∧ i ≤ bs.length ∧ f 0 = .pointer (some (At g 0)) ∧ f 1 = .int .u32 (wi (V.run (~~~ s) (bs.take i))) ∧ f 17 = .slice A bs.length c ∧ f 18 = .int .i64 bs.length ∧ f 19 = .int .i64 i ∧ w' = w1) bs.length
    ⟨0, rfl, by omega, by simp -implicitDefEqProofs only [go_sem, seval], by simp -implicitDefEqProofs only [go_sem, seval] <;> rfl, by simp -implicitDefEqProofs only [go_sem, seval], by simp -implicitDefEqProofs only [go_sem, seval], by simp -implicitDefEqProofs only [go_sem, seval] <;> rfl, rfl⟩ ?_
  rintro k f w2 ⟨i, rfl, hi, g0, g1, g17, g18, g19, rfl⟩
  by_cases hlt : i < bs.length
  · have i0 : (0 : Int) ≤ (i : Int) := by omega
    have i1 : (i : Int) < (bs.length : Int) := by omega
    obtain ⟨ad, rfl, hc⟩ := RdI.byte hr1 hlt
    have ht := run_take (x := ~~~ s) hlt
    generalize V.run (~~~ s) (bs.take i) = x at *
    generalize bs[i] = b at *
    have e1 := to8 x
    have e2 := x8 (x.setWidth 8) b
    have hts := table_step x b
    generalize hz : x.setWidth 8 ^^^ b = z at *
    have hzl := z.isLt
    have z0 : (0 : Int) ≤ bi z := Int.natCast_nonneg _
    have z1 : bi z < 256 := by show (z.toNat : Int) < 256; omega
    have e3 := shr8 x
    have hcell := sum_tab hR (crcTab_at hzl)
    rw [← wd_nat] at hcell
    have e4 := x32 (eight (wd z)) (x >>> 8)
    rw [hts] at e4
    have e5 : IntKind.i64.wrap ((i : Int) + 1) = ((i + 1 : Nat) : Int) := i64_nat (by omega) (by omega)
    simp -implicitDefEqProofs only [go_sem, seval, g0, g1, g17, g18, g19, i0, i1, hc, e1, e2, z0, z1, e3, e4, e5, add_off, hcell]
    exact ⟨bs.length - (i + 1), by omega, i + 1, rfl, by omega, by simp -implicitDefEqProofs only [go_sem, seval, g0], by rw [ht]; simp -implicitDefEqProofs only [go_sem, seval], by simp -implicitDefEqProofs only [go_sem, seval, g17], by simp -implicitDefEqProofs only [go_sem, seval, g18], by simp -implicitDefEqProofs only [go_sem, seval], rfl⟩
  · have i1 : ¬ (i : Int) < (bs.length : Int) := by omega
    rw [List.take_of_length_le (by omega)] at g1
    have e1 := xall' (V.run (~~~ s) bs)
    simp -implicitDefEqProofs only [go_sem, seval, g0, g1, g17, g18, g19, i1, e1]
    exact ⟨rfl, hR, hF⟩

theorem of_calls {w : World} {g : Nat} (h : Sum w g) {bs : List (BitVec 8)} {A : Option Addr} {c : Nat} (hr : RdI w .u8 A (byts bs)) (hn : Off A bs g) (hl : bs.length ≤ 9223372036854775807) :
    callK Try.prog 17 #[.pointer (some (At g 0)), .slice A bs.length c] w fun v w' => v = .int .u32 (wi (more 0#32 bs)) ∧ Ready w' g ∧ Fx (only g) w w' := by
  refine callK_of Try.func17 c17 r17 (by exact Nat.le_of_ble_eq_true rfl) ?_
  rw [m17]
  simp -implicitDefEqProofs only [go_sem, seval]
  refine (more_calls h 0#32 hr hn hl).mono ?_
  rintro v w' ⟨rfl, hR, hF⟩
  simp -implicitDefEqProofs only [go_sem, seval]
  exact ⟨trivial, hR, hF⟩

theorem new_calls (w : World) : callK Try.prog 12 #[] w fun v w' => v = .pointer (some (At w.heap.size 0)) ∧ Fresh w' w.heap.size ∧ Fx (fun _ => False) w w' ∧ w'.heap.size = w.heap.size + 1 := by
  refine callK_of Try.func12 c12 r12 (by exact Nat.le_of_ble_eq_true rfl) ?_
  rw [m12]
  simp -implicitDefEqProofs only [go_sem, seval]
  refine runK_of (v := .agg (sumC 0 0 0 0 (List.replicate 256 0))) (w' := w) ?_ ?_
  · have hz : (Try.prog.info? 89).bind (·.zero) = some (.agg (sumC 0 0 0 0 (List.replicate 256 0))) := by kernel_rfl
    generalize sumC 0 0 0 0 (List.replicate 256 0) = cs at *
    cases hi : Try.prog.info? 89 with
    | none => rw [hi] at hz; cases hz
    | some i =>
      rw [hi] at hz
      replace hz : i.zero = some (.agg cs) := hz
      simp [Instr.build, zeroValue, typeInfo, hi, hz, Instr.fill, Value.cells]
  · simp -implicitDefEqProofs only [go_sem, seval]
    refine ⟨by first | rfl | trivial, Blk.new w 89 _, Fx.alloc _ w _, size_alloc w _⟩
end Go.Proofs.Ytnlibeaainbipaa.F
