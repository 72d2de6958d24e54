/- Bytes that a call reads, as a string; a slice cut short. Conditions: the slice's places hold the numbers. -/
import Derived.Test.YtnoeeiaffnbhcaaMown
namespace Go.Proofs.Ytnoeeiaffnbhcaa.M
open Go.RowKit
variable {P : Program}

/-- The types of a slice of bytes and of a string. -/
def BS (P : Program) (s e t : TypeId) : Prop := P.underlying s = some (.slice e) ∧ P.underlying e = some (.int .u8) ∧ P.underlying t = some .string

theorem cv_bytes {s e t : TypeId} {w : World} {A : Option Addr} {xs : List Int} {c : Nat} {k : Value → World → Prop} (hT : BS P s e t) (hr : RdI w .u8 A xs) (hk : k (.string (strOfNums xs)) w) : cvK P s t (.slice A xs.length c) w k := by
  obtain ⟨hs, he, ht⟩ := hT
  have e1 : cvK P s t (.slice A xs.length c) w k = runK P (convert s t (.slice A xs.length c)) w k := by simp [cvK, hs, ht]
  rw [e1]
  refine runK_of ?_ hk
  rw [run_convert_bytes_string w s t e A xs.length c hs he ht]
  cases A with
  | none =>
    have : xs = [] := by
      cases xs with
      | nil => rfl
      | cons y ys =>
        obtain ⟨ad, e, _⟩ := hr 0 y rfl
        cases e
    subst this
    simp [Conv.bytesToString, strOfNums]
    rfl
  | some ad =>
    have hl : (loadCells ad xs.length).run P w = .ok (xs.map (Value.int .u8)).toArray w := by
      have := run_loadCells_list (P := P) w ad (xs.map (Value.int .u8)) (fun j v hj => by
        rw [List.getElem?_map] at hj
        cases hx : xs[j]? with
        | none => rw [hx] at hj; cases hj
        | some x =>
          rw [hx] at hj
          cases hj
          obtain ⟨ad', e, hc⟩ := hr j x hx
          cases e
          exact hc)
      simpa using this
    rw [run_bytesToString w ad xs.length c xs hl, foldl_push_bytes]
    simp [strOfNums, ByteArray.empty, ByteArray.emptyWithCapacity]
    rfl

theorem cv_bytesN {s e t : TypeId} {w : World} {A : Option Addr} {xs : List Int} {n c : Nat} {k : Value → World → Prop} (hT : BS P s e t) (hn : xs.length = n) (hr : RdI w .u8 A xs) (hk : k (.string (strOfNums xs)) w) : cvK P s t (.slice A n c) w k := by
  subst hn
  exact cv_bytes hT hr hk
theorem RdI.cut {kd : IntKind} {w : World} {A : Option Addr} {xs : List Int} (h : RdI w kd A xs) (l c : Nat) (hc : xs.length ≤ c) : RdI w kd (cutA A l c 1) (xs.drop l) := by
  refine h.drop l fun hl => ?_
  unfold cutA
  rw [if_neg (by omega), Nat.mul_one]
theorem RdI.at {kd : IntKind} {w : World} {A : Option Addr} {xs : List Int} (h : RdI w kd A xs) {i : Nat} (hi : i < xs.length) : ∃ ad, A = some ad ∧ w.cell? (ad.add i) = some (.int kd xs[i]) := h i _ (List.getElem?_eq_getElem hi)
theorem bsl_three {t e : TypeId} {kd : IntKind} {by_ : Nat} {w : World} {x y z : Int} {k : Value → World → Prop} (hT : IE P t e kd by_) (hk : k (.slice (some ⟨w.heap.size, 0, none⟩) 3 3) (w.alloc (.cells #[.int kd x, .int kd y, .int kd z] e))) : bslK P t 3 #[(0, .int kd x), (1, .int kd y), (2, .int kd z)] w k := by
  obtain ⟨ht, hi⟩ := hT
  cases hinfo : P.info? e with
  | none => rw [hinfo] at hi; cases hi
  | some i =>
    rw [hinfo] at hi
    simp only [Option.map_some, Option.some.injEq, Prod.mk.injEq] at hi
    obtain ⟨hz, hs, hby⟩ := hi
    refine runK_of ?_ hk
    simp [Instr.buildSlice, run_underlying ht, sizeOf, typeInfo, hinfo, hs, zeroValue, hz, Instr.fill, Value.cells, newRow, newObj, go_sem]
    rfl
end Go.Proofs.Ytnoeeiaffnbhcaa.M
