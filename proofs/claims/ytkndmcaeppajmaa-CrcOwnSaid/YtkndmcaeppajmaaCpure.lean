/- Cyclic sums in plain bits: the table's step is eight single steps, steps are linear and one to one, and what differs in a window of 32 bits sums to another number. Conditions: none. -/
import Derived.Laws.BitsLemmas
namespace Go.Proofs.Ytkndmcaeppajmaa.V

abbrev W32 := BitVec 32
def poly : W32 := 3988292384#32
def one (x : W32) : W32 := (x >>> 1) ^^^ (if x.getLsbD 0 then poly else 0#32)
def eight (x : W32) : W32 := one (one (one (one (one (one (one (one x)))))))

theorem one_xor (x y : W32) : one (x ^^^ y) = one x ^^^ one y := by
  unfold one
  rw [BitVec.ushiftRight_xor_distrib, BitVec.getLsbD_xor]
  generalize x >>> 1 = a
  generalize y >>> 1 = b
  cases x.getLsbD 0 <;> cases y.getLsbD 0 <;> ext i hi <;> simp [BitVec.getElem_xor] <;> cases a[i] <;> cases b[i] <;> cases poly[i] <;> rfl
theorem eight_xor (x y : W32) : eight (x ^^^ y) = eight x ^^^ eight y := by unfold eight; simp only [one_xor]

theorem one_low {x : W32} (h : x.getLsbD 0 = false) : one x = x >>> 1 := by
  unfold one
  rw [h]
  simp
theorem eight_low {x : W32} (h : ∀ i, i < 8 → x.getLsbD i = false) : eight x = x >>> 8 := by
  have step : ∀ k, k < 8 → one (x >>> k) = x >>> (k + 1) := by
    intro k hk
    rw [one_low (by rw [BitVec.getLsbD_ushiftRight]; simpa using h k hk), ← BitVec.shiftRight_add]
  have e0 : one x = x >>> 1 := by simpa using step 0 (by decide)
  unfold eight
  rw [e0, step 1 (by decide), step 2 (by decide), step 3 (by decide), step 4 (by decide), step 5 (by decide), step 6 (by decide), step 7 (by decide)]

/-- A byte as a word. -/
def wd (b : BitVec 8) : W32 := b.setWidth 32
theorem split_low (x : W32) : x = wd (x.setWidth 8) ^^^ ((x >>> 8) <<< 8) := by
  unfold wd
  ext i hi
  simp only [BitVec.getElem_xor, BitVec.getElem_setWidth, BitVec.getLsbD_setWidth, BitVec.getElem_shiftLeft, BitVec.getElem_ushiftRight]
  by_cases h : i < 8
  · simp [h, BitVec.getLsbD_eq_getElem hi]
  · have : 8 + (i - 8) = i := by omega
    simp [h, this, BitVec.getLsbD_eq_getElem hi]
/-- The table's step. -/
theorem eight_table (x : W32) : eight x = eight (wd (x.setWidth 8)) ^^^ (x >>> 8) := by
  have h : eight ((x >>> 8) <<< 8) = x >>> 8 := by
    rw [eight_low]
    · ext i hi
      simp only [BitVec.getElem_ushiftRight, BitVec.getLsbD_shiftLeft, BitVec.getLsbD_ushiftRight]
      by_cases h : 8 + i < 32
      · simp [h]
      · have : x.getLsbD (8 + i) = false := BitVec.getLsbD_of_ge _ _ (by omega)
        simp [h, this]
    · intro i hi
      simp [hi]
  calc eight x = eight (wd (x.setWidth 8) ^^^ ((x >>> 8) <<< 8)) := congrArg eight (split_low x)
    _ = _ := by rw [eight_xor, h]

theorem table_step (x : W32) (b : BitVec 8) : eight (wd (x.setWidth 8 ^^^ b)) ^^^ (x >>> 8) = eight (x ^^^ wd b) := by
  rw [eight_table (x ^^^ wd b)]
  congr 1
  · congr 2
    ext i hi
    simp [wd]
  · rw [BitVec.ushiftRight_xor_distrib]
    have : wd b >>> 8 = 0#32 := by
      ext i hi
      simp [wd]
    rw [this]
    simp

/-! ### bytes -/
def run (x : W32) (bs : List (BitVec 8)) : W32 := bs.foldl (fun x b => eight (x ^^^ wd b)) x
def more (s : W32) (bs : List (BitVec 8)) : W32 := ~~~ (run (~~~ s) bs)
theorem more_append (s : W32) (a b : List (BitVec 8)) : more (more s a) b = more s (a ++ b) := by
  unfold more run
  rw [BitVec.not_not, List.foldl_append]
theorem not_inj {x y : W32} : (~~~ x = ~~~ y) ↔ x = y := by
  constructor
  · intro h
    have := congrArg (~~~ ·) h
    simpa using this
  · intro h; rw [h]
end Go.Proofs.Ytkndmcaeppajmaa.V
