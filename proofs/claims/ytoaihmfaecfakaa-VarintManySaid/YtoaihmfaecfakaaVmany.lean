/- Many numbers put one behind another are read back, and nothing is left. Conditions: the slice's places hold numbers of 64 bits. -/
import Derived.Test.YtoaihmfaecfakaaVrows
namespace Go.Proofs.Ytoaihmfaecfakaa.F
open Go.RowKit Go.Proofs.Ytoaihmfaecfakaa.M Go.Proofs.Ytoaihmfaecfakaa.V
set_option linter.unusedSimpArgs false
set_option linter.unusedVariables false
set_option maxRecDepth 20000

def U64s (b : List Int) : Prop := ∀ x ∈ b, ∃ m : Nat, m < 18446744073709551616 ∧ x = m
def puts (b : List Int) : List Int := b.flatMap fun x => vput x.toNat
theorem puts_len : ∀ {b : List Int}, U64s b → (puts b).length ≤ 10 * b.length
  | [], _ => by simp [puts]
  | x :: b, h => by
    have := puts_len (b := b) (fun y hy => h y (by simp [hy]))
    obtain ⟨m, hm, rfl⟩ := h x (by simp)
    have := vput_u64 hm
    simp only [puts, List.flatMap_cons, List.length_append, List.length_cons, Int.toNat_natCast] at *
    omega
theorem puts_bs (b : List Int) : Bs (puts b) := by
  intro x hx
  simp only [puts, List.mem_flatMap] at hx
  obtain ⟨y, _, hy⟩ := hx
  exact vput_byte hy

theorem many_walk {b : List Int} {A : Option Addr} {c : Nat} {w : World} (hr : RdI w .u64 A b) (hb : U64s b) (hl : b.length ≤ 9223372036854775807) : callK Try.prog 7 #[.slice A b.length c] w fun v w' => v = .bool true ∧ Keep w w' := by
  refine callK_of Try.func7 c7 r7 (by exact Nat.le_of_ble_eq_true rfl) ?_
  rw [m7]
  simp -implicitDefEqProofs only [go_sem, ↓reduceIte, Nat.reduceEqDiff, Int.reduceLT, not_false_eq_true, List.map_toArray, List.map_cons, List.map_nil, Option.isSome_some, Nat.reduceLT, Int.reduceToNat, Int.reducePow, Nat.reduceAdd, Int.toNat_natCast, Bool.not_true, Bool.not_false, Nat.mul_one, decide_true, decide_false, Bool.false_eq_true, List.getElem?_cons_zero, List.getElem?_cons_succ, Int.reduceEq, Option.map_some, Option.map_none]
  refine (alive_calls _).mono ?_
  rintro v w1 ⟨rfl, k1⟩
  simp -implicitDefEqProofs only [go_sem, ↓reduceIte, Nat.reduceEqDiff, Int.reduceLT, not_false_eq_true, List.map_toArray, List.map_cons, List.map_nil, Option.isSome_some, Nat.reduceLT, Int.reduceToNat, Int.reducePow, Nat.reduceAdd, Int.toNat_natCast, Bool.not_true, Bool.not_false, Nat.mul_one, decide_true, decide_false, Bool.false_eq_true, List.getElem?_cons_zero, List.getElem?_cons_succ, Int.reduceEq, Option.map_some, Option.map_none]
  refine loop_intro (fun k f w' => ∃ (i : Nat) (v : Value), k = b.length - i ∧ i ≤ b.length ∧ i ≤ 100 ∧ f 0 = .slice A b.length c ∧ f 4 = .int .i64 i ∧ f 3 = v ∧ OwnI 5 .u8 w.heap.size w' v (puts (b.take i)) ∧ Keep w w') b.length
    ⟨0, _, rfl, by omega, by omega, by simp -implicitDefEqProofs only [go_sem, ↓reduceIte, Nat.reduceEqDiff, Int.reduceLT, not_false_eq_true, List.map_toArray, List.map_cons, List.map_nil, Option.isSome_some, Nat.reduceLT, Int.reduceToNat, Int.reducePow, Nat.reduceAdd, Int.toNat_natCast, Bool.not_true, Bool.not_false, Nat.mul_one, decide_true, decide_false, Bool.false_eq_true, List.getElem?_cons_zero, List.getElem?_cons_succ, Int.reduceEq, Option.map_some, Option.map_none], by simp -implicitDefEqProofs only [go_sem, ↓reduceIte, Nat.reduceEqDiff, Int.reduceLT, not_false_eq_true, List.map_toArray, List.map_cons, List.map_nil, Option.isSome_some, Nat.reduceLT, Int.reduceToNat, Int.reducePow, Nat.reduceAdd, Int.toNat_natCast, Bool.not_true, Bool.not_false, Nat.mul_one, decide_true, decide_false, Bool.false_eq_true, List.getElem?_cons_zero, List.getElem?_cons_succ, Int.reduceEq, Option.map_some, Option.map_none]; rfl, by simp -implicitDefEqProofs only [go_sem, ↓reduceIte, Nat.reduceEqDiff, Int.reduceLT, not_false_eq_true, List.map_toArray, List.map_cons, List.map_nil, Option.isSome_some, Nat.reduceLT, Int.reduceToNat, Int.reducePow, Nat.reduceAdd, Int.toNat_natCast, Bool.not_true, Bool.not_false, Nat.mul_one, decide_true, decide_false, Bool.false_eq_true, List.getElem?_cons_zero, List.getElem?_cons_succ, Int.reduceEq, Option.map_some, Option.map_none], OwnI.nil _ _ _ _, k1⟩ ?_
  rintro k f w2 ⟨i, v, rfl, hi, hi100, h0, h4, h3, ho, hk⟩
  have hU : ∀ j, U64s (b.take j) := fun j x hx => hb x (List.mem_of_mem_take hx)
  have hpl := puts_len (hU i)
  have hlt' : (b.take i).length = i := by rw [List.length_take]; omega
  have hs := hk.size
  by_cases hlt : i < b.length ∧ i < 100
  · obtain ⟨hlt, h100⟩ := hlt
    have i0 : (0 : Int) ≤ (i : Int) := by omega
    have i1 : (i : Int) < (b.length : Int) := by omega
    have q100 : (i : Int) < 100 := by omega
    have e1 : IntKind.i64.wrap ((i : Int) + 1) = ((i + 1 : Nat) : Int) := i64_nat (by omega) (by omega)
    have r2 := hr.fx hk (fun _ _ h => h)
    obtain ⟨ad, rfl, hc⟩ := r2.at hlt
    obtain ⟨m, hm, hbm⟩ := hb b[i] (List.getElem_mem hlt)
    have htk : puts (b.take (i + 1)) = puts (b.take i) ++ vput m := by
      rw [List.take_succ_eq_append_getElem hlt, hbm]
      simp [puts]
    rw [hbm] at hc
    simp -implicitDefEqProofs only [go_sem, ↓reduceIte, Nat.reduceEqDiff, Int.reduceLT, not_false_eq_true, List.map_toArray, List.map_cons, List.map_nil, Option.isSome_some, Nat.reduceLT, Int.reduceToNat, Int.reducePow, Nat.reduceAdd, Int.toNat_natCast, Bool.not_true, Bool.not_false, Nat.mul_one, decide_true, decide_false, Bool.false_eq_true, List.getElem?_cons_zero, List.getElem?_cons_succ, Int.reduceEq, Option.map_some, Option.map_none, h0, h4, h3, i0, i1, q100, hc]
    refine (put_calls hm _).mono ?_
    rintro v' w3 ⟨o3, k3⟩
    obtain ⟨A3, c3, rfl, hc3, r3⟩ := o3.slice
    have ho3 := ho.fx k3 (fun _ _ h => h)
    have hk3 : Keep w w3 := hk.trans k3 (fun _ _ h => h)
    have := vput_u64 hm
    simp -implicitDefEqProofs only [go_sem, ↓reduceIte, Nat.reduceEqDiff, Int.reduceLT, not_false_eq_true, List.map_toArray, List.map_cons, List.map_nil, Option.isSome_some, Nat.reduceLT, Int.reduceToNat, Int.reducePow, Nat.reduceAdd, Int.toNat_natCast, Bool.not_true, Bool.not_false, Nat.mul_one, decide_true, decide_false, Bool.false_eq_true, List.getElem?_cons_zero, List.getElem?_cons_succ, Int.reduceEq, Option.map_some, Option.map_none, h3]
    refine append_own ie8 (by decide) ho3 r3 (by omega) hk3.size ?_
    intro v4 w4 o4 hf _
    simp -implicitDefEqProofs only [go_sem, ↓reduceIte, Nat.reduceEqDiff, Int.reduceLT, not_false_eq_true, List.map_toArray, List.map_cons, List.map_nil, Option.isSome_some, Nat.reduceLT, Int.reduceToNat, Int.reducePow, Nat.reduceAdd, Int.toNat_natCast, Bool.not_true, Bool.not_false, Nat.mul_one, decide_true, decide_false, Bool.false_eq_true, List.getElem?_cons_zero, List.getElem?_cons_succ, Int.reduceEq, Option.map_some, Option.map_none, h4, e1]
    rw [← htk] at o4
    exact ⟨b.length - (i + 1), by omega, i + 1, _, rfl, by omega, by omega, by simp -implicitDefEqProofs only [go_sem, ↓reduceIte, Nat.reduceEqDiff, Int.reduceLT, not_false_eq_true, List.map_toArray, List.map_cons, List.map_nil, Option.isSome_some, Nat.reduceLT, Int.reduceToNat, Int.reducePow, Nat.reduceAdd, Int.toNat_natCast, Bool.not_true, Bool.not_false, Nat.mul_one, decide_true, decide_false, Bool.false_eq_true, List.getElem?_cons_zero, List.getElem?_cons_succ, Int.reduceEq, Option.map_some, Option.map_none, h0], by simp -implicitDefEqProofs only [go_sem, ↓reduceIte, Nat.reduceEqDiff, Int.reduceLT, not_false_eq_true, List.map_toArray, List.map_cons, List.map_nil, Option.isSome_some, Nat.reduceLT, Int.reduceToNat, Int.reducePow, Nat.reduceAdd, Int.toNat_natCast, Bool.not_true, Bool.not_false, Nat.mul_one, decide_true, decide_false, Bool.false_eq_true, List.getElem?_cons_zero, List.getElem?_cons_succ, Int.reduceEq, Option.map_some, Option.map_none], by simp -implicitDefEqProofs only [go_sem, ↓reduceIte, Nat.reduceEqDiff, Int.reduceLT, not_false_eq_true, List.map_toArray, List.map_cons, List.map_nil, Option.isSome_some, Nat.reduceLT, Int.reduceToNat, Int.reducePow, Nat.reduceAdd, Int.toNat_natCast, Bool.not_true, Bool.not_false, Nat.mul_one, decide_true, decide_false, Bool.false_eq_true, List.getElem?_cons_zero, List.getElem?_cons_succ, Int.reduceEq, Option.map_some, Option.map_none], o4, hk3.then_own ho3 hf⟩
  · obtain ⟨n, hn, hnb, hq⟩ : ∃ n, n = i ∧ n = min b.length 100 ∧ n ≤ b.length := ⟨i, rfl, by omega, hi⟩
    obtain ⟨Ab, cb, rfl, hcb, hrb⟩ := ho.slice
    have next : ∀ (K : Prop), (b.length = i → K) → (i < b.length → i = 100 → K) → K := fun K h1 h2 => by
      by_cases h : b.length = i
      · exact h1 h
      · exact h2 (by omega) (by omega)
    by_cases he : b.length = i
    case' pos =>
      have i1 : ¬ (i : Int) < (b.length : Int) := by omega
      simp -implicitDefEqProofs only [go_sem, ↓reduceIte, Nat.reduceEqDiff, Int.reduceLT, not_false_eq_true, List.map_toArray, List.map_cons, List.map_nil, Option.isSome_some, Nat.reduceLT, Int.reduceToNat, Int.reducePow, Nat.reduceAdd, Int.toNat_natCast, Bool.not_true, Bool.not_false, Nat.mul_one, decide_true, decide_false, Bool.false_eq_true, List.getElem?_cons_zero, List.getElem?_cons_succ, Int.reduceEq, Option.map_some, Option.map_none, h0, h4, h3, i1]
    case' neg =>
      have i1 : (i : Int) < (b.length : Int) := by omega
      have q100 : ¬ (i : Int) < 100 := by omega
      simp -implicitDefEqProofs only [go_sem, ↓reduceIte, Nat.reduceEqDiff, Int.reduceLT, not_false_eq_true, List.map_toArray, List.map_cons, List.map_nil, Option.isSome_some, Nat.reduceLT, Int.reduceToNat, Int.reducePow, Nat.reduceAdd, Int.toNat_natCast, Bool.not_true, Bool.not_false, Nat.mul_one, decide_true, decide_false, Bool.false_eq_true, List.getElem?_cons_zero, List.getElem?_cons_succ, Int.reduceEq, Option.map_some, Option.map_none, h0, h4, h3, i1, q100]
    all_goals
      refine loop_intro (fun k f w' => ∃ (j : Nat) (A' : Option Addr) (c' : Nat), k = i - j ∧ j ≤ i ∧ f 0 = .slice A b.length c ∧ f 5 = .int .i64 j ∧ f 3 = .slice A' (puts ((b.take i).drop j)).length c' ∧ (puts ((b.take i).drop j)).length ≤ c' ∧ RdI w2 .u8 A' (puts ((b.take i).drop j)) ∧ w' = w2) i
        ⟨0, Ab, cb, rfl, by omega, by simp -implicitDefEqProofs only [go_sem, ↓reduceIte, Nat.reduceEqDiff, Int.reduceLT, not_false_eq_true, List.map_toArray, List.map_cons, List.map_nil, Option.isSome_some, Nat.reduceLT, Int.reduceToNat, Int.reducePow, Nat.reduceAdd, Int.toNat_natCast, Bool.not_true, Bool.not_false, Nat.mul_one, decide_true, decide_false, Bool.false_eq_true, List.getElem?_cons_zero, List.getElem?_cons_succ, Int.reduceEq, Option.map_some, Option.map_none, h0], by simp -implicitDefEqProofs only [go_sem, ↓reduceIte, Nat.reduceEqDiff, Int.reduceLT, not_false_eq_true, List.map_toArray, List.map_cons, List.map_nil, Option.isSome_some, Nat.reduceLT, Int.reduceToNat, Int.reducePow, Nat.reduceAdd, Int.toNat_natCast, Bool.not_true, Bool.not_false, Nat.mul_one, decide_true, decide_false, Bool.false_eq_true, List.getElem?_cons_zero, List.getElem?_cons_succ, Int.reduceEq, Option.map_some, Option.map_none]; rfl, by rw [List.drop_zero]; simp -implicitDefEqProofs only [go_sem, ↓reduceIte, Nat.reduceEqDiff, Int.reduceLT, not_false_eq_true, List.map_toArray, List.map_cons, List.map_nil, Option.isSome_some, Nat.reduceLT, Int.reduceToNat, Int.reducePow, Nat.reduceAdd, Int.toNat_natCast, Bool.not_true, Bool.not_false, Nat.mul_one, decide_true, decide_false, Bool.false_eq_true, List.getElem?_cons_zero, List.getElem?_cons_succ, Int.reduceEq, Option.map_some, Option.map_none, h3], hcb, hrb, rfl⟩ ?_
      rintro k f2 w3 ⟨j, A', c', rfl, hj, g0, g5, g3, hc', hr', rfl⟩
      by_cases hji : j < i
      · have j0 : (0 : Int) ≤ (j : Int) := by omega
        have j1 : (j : Int) < (b.length : Int) := by omega
        have j2 : (j : Int) < 100 := by omega
        have e1 : IntKind.i64.wrap ((j : Int) + 1) = ((j + 1 : Nat) : Int) := i64_nat (by omega) (by omega)
        have r2 := hr.fx hk (fun _ _ h => h)
        obtain ⟨ad, rfl, hcell⟩ := r2.at (show j < b.length by omega)
        obtain ⟨m, hm, hbm⟩ := hb b[j] (List.getElem_mem (by omega))
        have hd : puts ((b.take i).drop j) = vput m ++ puts ((b.take i).drop (j + 1)) := by
          rw [List.drop_eq_getElem_cons (by omega)]
          rw [List.getElem_take, hbm]
          simp [puts]
        rw [hbm] at hcell
        have hv := vget_put hm (puts ((b.take i).drop (j + 1)))
        have hbs := puts_bs ((b.take i).drop j)
        have hle : (puts ((b.take i).drop j)).length ≤ 1000 := by
          have h1 := puts_len (b := (b.take i).drop j) (fun x hx => hU i x (List.mem_of_mem_drop hx))
          rw [List.length_drop] at h1
          omega
        have hp := vput_pos m
        rw [← hd] at hv
        have hlen := congrArg List.length hd
        rw [List.length_append] at hlen
        have hcut := hr'.cut (vput m).length c' hc'
        have hdr : (puts ((b.take i).drop j)).drop (vput m).length = puts ((b.take i).drop (j + 1)) := by rw [hd, List.drop_left]
        rw [hdr] at hcut
        generalize hX : puts ((b.take i).drop j) = X at *
        simp -implicitDefEqProofs only [go_sem, ↓reduceIte, Nat.reduceEqDiff, Int.reduceLT, not_false_eq_true, List.map_toArray, List.map_cons, List.map_nil, Option.isSome_some, Nat.reduceLT, Int.reduceToNat, Int.reducePow, Nat.reduceAdd, Int.toNat_natCast, Bool.not_true, Bool.not_false, Nat.mul_one, decide_true, decide_false, Bool.false_eq_true, List.getElem?_cons_zero, List.getElem?_cons_succ, Int.reduceEq, Option.map_some, Option.map_none, g0, g5, g3, j0, j1, j2]
        refine (get_calls hr' hbs (by omega)).mono ?_
        rintro v w4 ⟨rfl, rfl⟩
        have z0 : ((0 : Int) != 0) = false := rfl
        have z1 : ((m : Int) != (m : Int)) = false := by simp
        have q1 : ¬ (X.length : Int) < ((vput m).length : Int) := by omega
        have s0 : (0 : Int) ≤ ((vput m).length : Int) := by omega
        have s1 : ((vput m).length : Int) ≤ (X.length : Int) := by omega
        simp -implicitDefEqProofs only [go_sem, ↓reduceIte, Nat.reduceEqDiff, Int.reduceLT, not_false_eq_true, List.map_toArray, List.map_cons, List.map_nil, Option.isSome_some, Nat.reduceLT, Int.reduceToNat, Int.reducePow, Nat.reduceAdd, Int.toNat_natCast, Bool.not_true, Bool.not_false, Nat.mul_one, decide_true, decide_false, Bool.false_eq_true, List.getElem?_cons_zero, List.getElem?_cons_succ, Int.reduceEq, Option.map_some, Option.map_none, getV, hv, z0, z1, q1, g0, g5, g3, j0, j1, hcell, s0, s1, hc', e1]
        refine ⟨i - (j + 1), by omega, j + 1, cutA A' (vput m).length c' 1, c' - (vput m).length, rfl, by omega, by simp -implicitDefEqProofs only [go_sem, ↓reduceIte, Nat.reduceEqDiff, Int.reduceLT, not_false_eq_true, List.map_toArray, List.map_cons, List.map_nil, Option.isSome_some, Nat.reduceLT, Int.reduceToNat, Int.reducePow, Nat.reduceAdd, Int.toNat_natCast, Bool.not_true, Bool.not_false, Nat.mul_one, decide_true, decide_false, Bool.false_eq_true, List.getElem?_cons_zero, List.getElem?_cons_succ, Int.reduceEq, Option.map_some, Option.map_none, g0], by simp -implicitDefEqProofs only [go_sem, ↓reduceIte, Nat.reduceEqDiff, Int.reduceLT, not_false_eq_true, List.map_toArray, List.map_cons, List.map_nil, Option.isSome_some, Nat.reduceLT, Int.reduceToNat, Int.reducePow, Nat.reduceAdd, Int.toNat_natCast, Bool.not_true, Bool.not_false, Nat.mul_one, decide_true, decide_false, Bool.false_eq_true, List.getElem?_cons_zero, List.getElem?_cons_succ, Int.reduceEq, Option.map_some, Option.map_none], ?_, ?_, hcut, rfl⟩
        · rw [show (puts ((b.take i).drop (j + 1))).length = X.length - (vput m).length by omega]
          simp -implicitDefEqProofs only [go_sem, ↓reduceIte, Nat.reduceEqDiff, Int.reduceLT, not_false_eq_true, List.map_toArray, List.map_cons, List.map_nil, Option.isSome_some, Nat.reduceLT, Int.reduceToNat, Int.reducePow, Nat.reduceAdd, Int.toNat_natCast, Bool.not_true, Bool.not_false, Nat.mul_one, decide_true, decide_false, Bool.false_eq_true, List.getElem?_cons_zero, List.getElem?_cons_succ, Int.reduceEq, Option.map_some, Option.map_none]
        · show _ ≤ c' - (vput m).length
          omega
      · have hji' : j = i := by omega
        have hX : puts ((b.take i).drop j) = [] := by rw [hji', List.drop_of_length_le (by omega)]; rfl
        rw [hX] at g3
        have z0 : (((0 : Nat) : Int) == 0) = true := rfl
        first
        | (have j1 : ¬ (j : Int) < (b.length : Int) := by omega
           simp -implicitDefEqProofs only [go_sem, ↓reduceIte, Nat.reduceEqDiff, Int.reduceLT, not_false_eq_true, List.map_toArray, List.map_cons, List.map_nil, Option.isSome_some, Nat.reduceLT, Int.reduceToNat, Int.reducePow, Nat.reduceAdd, Int.toNat_natCast, Bool.not_true, Bool.not_false, Nat.mul_one, decide_true, decide_false, Bool.false_eq_true, List.getElem?_cons_zero, List.getElem?_cons_succ, Int.reduceEq, Option.map_some, Option.map_none, g0, g5, g3, j1, List.length_nil, z0]
           exact ⟨trivial, hk⟩)
        | (have j1 : (j : Int) < (b.length : Int) := by omega
           have j2 : ¬ (j : Int) < 100 := by omega
           simp -implicitDefEqProofs only [go_sem, ↓reduceIte, Nat.reduceEqDiff, Int.reduceLT, not_false_eq_true, List.map_toArray, List.map_cons, List.map_nil, Option.isSome_some, Nat.reduceLT, Int.reduceToNat, Int.reducePow, Nat.reduceAdd, Int.toNat_natCast, Bool.not_true, Bool.not_false, Nat.mul_one, decide_true, decide_false, Bool.false_eq_true, List.getElem?_cons_zero, List.getElem?_cons_succ, Int.reduceEq, Option.map_some, Option.map_none, g0, g5, g3, j1, j2, List.length_nil, z0]
           exact ⟨trivial, hk⟩)
end Go.Proofs.Ytoaihmfaecfakaa.F
