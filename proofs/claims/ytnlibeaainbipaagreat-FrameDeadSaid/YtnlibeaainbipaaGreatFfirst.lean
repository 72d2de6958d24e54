/- The first message that bytes begin with, as the document tells it: its error. Conditions: the bytes stand in a block from its first place. -/
import Derived.Test.YtnlibeaainbipaaGreatFrsum
import Derived.Test.YtnlibeaainbipaaGreatFnext
import Derived.Test.YtnlibeaainbipaaGreatGrefread
import Derived.Test.YtnlibeaainbipaaGreatMfne
namespace Go.Proofs.YtnlibeaainbipaaGreat.F
open Go.RowKit Go.Proofs.YtnlibeaainbipaaGreat.M Go.Proofs.YtnlibeaainbipaaGreat.V
set_option linter.unusedSimpArgs false
set_option linter.unusedVariables false
set_option maxRecDepth 20000
theorem vgetFrom_err : ∀ (b : List Int) (i : Nat) (acc : Int), (vgetFrom i acc b).2.2 = 0 ∨ (vgetFrom i acc b).2.2 = 40 ∨ (vgetFrom i acc b).2.2 = 41
  | [], i, acc => .inr (.inl rfl)
  | c :: r, i, acc => by
    unfold vgetFrom
    split
    · exact .inr (.inr rfl)
    · split
      · split
        · exact .inr (.inr rfl)
        · exact .inl rfl
      · exact vgetFrom_err r _ _
set_option maxHeartbeats 3200000 in
theorem first_ne {w : World} {gb o c : Nat} {b : List Int} (hrd : RdI w .u8 (some (At gb o)) b) (hb0 : 0 < b.length) (hc : b.length ≤ c) (hcm : c ≤ maxLen) (hbs : Bs b) (hlen : b.length ≤ 1000000000) :
    callK Tryz.prog 14 #[.slice (some (At gb o)) b.length c] w fun v w' => (∃ cs n, v = .tuple #[.agg (List.toArray cs), .int .i64 n, .int .i64 (nextF b).2.1] ∧ cs.length = 28 ∧ allOne cs = true ∧ ((nextF b).2.1 = 0 → ∃ k : Nat, n = k ∧ 0 < k ∧ k ≤ b.length ∧ (nextF b).2.2.1 = b.drop k)) ∧ Keep w w' := by
  refine callK_of Tryz.func14 c14 r14 (by exact Nat.le_of_ble_eq_true rfl) ?_
  rw [m14]
  have hgl : gb < w.heap.size := rdI_lt hrd (by intro e; rw [e] at hb0; exact absurd hb0 (by decide)) _ rfl
  have hr : Blk _ _ _ _ := Blk.new w 37 #[.int .u8 0, .int .u32 0, .int .u32 0, .int .u64 0, .int .u8 0, .int .u32 0, .string ⟨#[]⟩, .string ⟨#[]⟩, .int .u8 0, .int .u8 0, .bool false, .int .u8 0, .int .u16 0, .slice none 0 0, .int .u32 0, .slice none 0 0, .int .u16 0, .int .u16 0, .slice none 0 0, .slice none 0 0, .slice none 0 0, .int .u32 0, .int .u32 0, .slice none 0 0, .int .u64 0, .slice none 0 0, .slice none 0 0, .slice none 0 0]
  have kA : Keep w (w.alloc (.cells #[.int .u8 0, .int .u32 0, .int .u32 0, .int .u64 0, .int .u8 0, .int .u32 0, .string ⟨#[]⟩, .string ⟨#[]⟩, .int .u8 0, .int .u8 0, .bool false, .int .u8 0, .int .u16 0, .slice none 0 0, .int .u32 0, .slice none 0 0, .int .u16 0, .int .u16 0, .slice none 0 0, .slice none 0 0, .slice none 0 0, .int .u32 0, .int .u32 0, .slice none 0 0, .int .u64 0, .slice none 0 0, .slice none 0 0, .slice none 0 0] 37)) := Fx.alloc _ w _
  have s1 := size_alloc w (.cells #[.int .u8 0, .int .u32 0, .int .u32 0, .int .u64 0, .int .u8 0, .int .u32 0, .string ⟨#[]⟩, .string ⟨#[]⟩, .int .u8 0, .int .u8 0, .bool false, .int .u8 0, .int .u16 0, .slice none 0 0, .int .u32 0, .slice none 0 0, .int .u16 0, .int .u16 0, .slice none 0 0, .slice none 0 0, .slice none 0 0, .int .u32 0, .int .u32 0, .slice none 0 0, .int .u64 0, .slice none 0 0, .slice none 0 0, .slice none 0 0] 37)
  simp -implicitDefEqProofs only [go_sem, seval]
  generalize w.alloc (.cells #[.int .u8 0, .int .u32 0, .int .u32 0, .int .u64 0, .int .u8 0, .int .u32 0, .string ⟨#[]⟩, .string ⟨#[]⟩, .int .u8 0, .int .u8 0, .bool false, .int .u8 0, .int .u16 0, .slice none 0 0, .int .u32 0, .slice none 0 0, .int .u16 0, .int .u16 0, .slice none 0 0, .slice none 0 0, .slice none 0 0, .int .u32 0, .int .u32 0, .slice none 0 0, .int .u64 0, .slice none 0 0, .slice none 0 0, .slice none 0 0] 37) = w1 at *
  obtain ⟨rr, hrr⟩ : ∃ rr, rr = w.heap.size := ⟨_, rfl⟩
  rw [← hrr] at hr s1 ⊢
  refine bsl_three ie8 ?_
  have hwt : Blk _ _ _ _ := Blk.new w1 5 #[.int .u8 76, .int .u8 68, .int .u8 1]
  have kB : Keep w1 (w1.alloc (.cells #[.int .u8 76, .int .u8 68, .int .u8 1] 5)) := Fx.alloc _ w1 _
  have hr2 := kB.blk hr (fun h => h)
  have K2 := kA.tr kB
  obtain ⟨gw, hgw⟩ : ∃ g, g = w1.heap.size := ⟨_, rfl⟩
  rw [← hgw] at hwt ⊢
  generalize w1.alloc (.cells #[.int .u8 76, .int .u8 68, .int .u8 1] 5) = w2 at *
  have ldb : ∀ wz, Keep w2 wz → ∀ i (hi : i < b.length), wz.cell? (At gb (o + i)) = some (.int .u8 b[i]) := fun wz kz i hi => by
    obtain ⟨ad, e, hcl⟩ := (hrd.fx (K2.tr kz) (fun _ _ h => h)) i _ (List.getElem?_eq_getElem hi)
    injection e with e
    subst e
    rw [at_add] at hcl
    exact hcl
  have ldb0 : ∀ wz, Keep w2 wz → wz.cell? (At gb o) = some (.int .u8 b[0]) := fun wz kz => ldb wz kz 0 hb0
  have ldw : ∀ wz, Keep w2 wz → ∀ i, wz.cell? (At gw i) = (#[.int .u8 76, .int .u8 68, .int .u8 1] : Array Value)[i]? := fun wz kz i => (kz.blk hwt (fun h => h)).cell i
  have zfin : ∀ {wz : World}, Blk wz rr 37 #[.int .u8 0, .int .u32 0, .int .u32 0, .int .u64 0, .int .u8 0, .int .u32 0, .string ⟨#[]⟩, .string ⟨#[]⟩, .int .u8 0, .int .u8 0, .bool false, .int .u8 0, .int .u16 0, .slice none 0 0, .int .u32 0, .slice none 0 0, .int .u16 0, .int .u16 0, .slice none 0 0, .slice none 0 0, .slice none 0 0, .int .u32 0, .int .u32 0, .slice none 0 0, .int .u64 0, .slice none 0 0, .slice none 0 0, .slice none 0 0] → Keep w wz → ∃ wq, stV Tryz.prog wz 37 (.pointer (some (At rr 0))) (.agg #[.int .u8 0, .int .u32 0, .int .u32 0, .int .u64 0, .int .u8 0, .int .u32 0, .string ⟨#[]⟩, .string ⟨#[]⟩, .int .u8 0, .int .u8 0, .bool false, .int .u8 0, .int .u16 0, .slice none 0 0, .int .u32 0, .slice none 0 0, .int .u16 0, .int .u16 0, .slice none 0 0, .slice none 0 0, .slice none 0 0, .int .u32 0, .int .u32 0, .slice none 0 0, .int .u64 0, .slice none 0 0, .slice none 0 0, .slice none 0 0]) = some wq ∧ ldV Tryz.prog wq 37 (.pointer (some (At rr 0))) = some (.agg #[.int .u8 0, .int .u32 0, .int .u32 0, .int .u64 0, .int .u8 0, .int .u32 0, .string ⟨#[]⟩, .string ⟨#[]⟩, .int .u8 0, .int .u8 0, .bool false, .int .u8 0, .int .u16 0, .slice none 0 0, .int .u32 0, .slice none 0 0, .int .u16 0, .int .u16 0, .slice none 0 0, .slice none 0 0, .slice none 0 0, .int .u32 0, .int .u32 0, .slice none 0 0, .int .u64 0, .slice none 0 0, .slice none 0 0, .slice none 0 0]) ∧ Keep w wq := by
    intro wz hz kz
    have FP : Fx (only rr) wz (putW wz rr 0 [.int .u8 0, .int .u32 0, .int .u32 0, .int .u64 0, .int .u8 0, .int .u32 0, .string ⟨#[]⟩, .string ⟨#[]⟩, .int .u8 0, .int .u8 0, .bool false, .int .u8 0, .int .u16 0, .slice none 0 0, .int .u32 0, .slice none 0 0, .int .u16 0, .int .u16 0, .slice none 0 0, .slice none 0 0, .slice none 0 0, .int .u32 0, .int .u32 0, .slice none 0 0, .int .u64 0, .slice none 0 0, .slice none 0 0, .slice none 0 0]) := Fx.put _ _ _ _ rfl
    exact ⟨putW wz rr 0 [.int .u8 0, .int .u32 0, .int .u32 0, .int .u64 0, .int .u8 0, .int .u32 0, .string ⟨#[]⟩, .string ⟨#[]⟩, .int .u8 0, .int .u8 0, .bool false, .int .u8 0, .int .u16 0, .slice none 0 0, .int .u32 0, .slice none 0 0, .int .u16 0, .int .u16 0, .slice none 0 0, .slice none 0 0, .slice none 0 0, .int .u32 0, .int .u32 0, .slice none 0 0, .int .u64 0, .slice none 0 0, .slice none 0 0, .slice none 0 0], stB (P := Tryz.prog) (o := 0) sz37 hz (by decide) [.int .u8 0, .int .u32 0, .int .u32 0, .int .u64 0, .int .u8 0, .int .u32 0, .string ⟨#[]⟩, .string ⟨#[]⟩, .int .u8 0, .int .u8 0, .bool false, .int .u8 0, .int .u16 0, .slice none 0 0, .int .u32 0, .slice none 0 0, .int .u16 0, .int .u16 0, .slice none 0 0, .slice none 0 0, .slice none 0 0, .int .u32 0, .int .u32 0, .slice none 0 0, .int .u64 0, .slice none 0 0, .slice none 0 0, .slice none 0 0] rfl rfl, ldP (P := Tryz.prog) sh37 hz rfl [.int .u8 0, .int .u32 0, .int .u32 0, .int .u64 0, .int .u8 0, .int .u32 0, .string ⟨#[]⟩, .string ⟨#[]⟩, .int .u8 0, .int .u8 0, .bool false, .int .u8 0, .int .u16 0, .slice none 0 0, .int .u32 0, .slice none 0 0, .int .u16 0, .int .u16 0, .slice none 0 0, .slice none 0 0, .slice none 0 0, .int .u32 0, .int .u32 0, .slice none 0 0, .int .u64 0, .slice none 0 0, .slice none 0 0, .slice none 0 0] rfl, kz.new FP (fun k e hk => by have : k = rr := e; omega)⟩
  simp only [maxLen] at hcm
  simp -implicitDefEqProofs only [go_sem, seval]
  refine loop_intro (fun q f w' => ∃ i : Nat, q = 3 - i ∧ i ≤ 3 ∧ i ≤ b.length ∧ f 0 = .slice (some (At gb o)) b.length c ∧ f 2 = .pointer (some (At rr 0)) ∧ f 5 = .slice (some (At gw 0)) 3 3 ∧ f 6 = .int .i64 i ∧ preN 4 0 b = preN (4 - i) i (b.drop i) ∧ Blk w' rr 37 #[.int .u8 0, .int .u32 0, .int .u32 0, .int .u64 0, .int .u8 0, .int .u32 0, .string ⟨#[]⟩, .string ⟨#[]⟩, .int .u8 0, .int .u8 0, .bool false, .int .u8 0, .int .u16 0, .slice none 0 0, .int .u32 0, .slice none 0 0, .int .u16 0, .int .u16 0, .slice none 0 0, .slice none 0 0, .slice none 0 0, .int .u32 0, .int .u32 0, .slice none 0 0, .int .u64 0, .slice none 0 0, .slice none 0 0, .slice none 0 0] ∧ Keep w2 w') 3
    ⟨0, rfl, by omega, Nat.zero_le _, by simp -implicitDefEqProofs only [go_sem, seval], by simp -implicitDefEqProofs only [go_sem, seval], by simp -implicitDefEqProofs only [go_sem, seval], by simp -implicitDefEqProofs only [go_sem, seval] <;> rfl, rfl, hr2, Fx.refl _ _⟩ ?_
  rintro q f w3 ⟨i, rfl, hi, hib, g0, g2, g5, g6, hpre, hr3, k3⟩
  have K3 := K2.tr k3
  by_cases hlt : i < 3
  · have i1 : (i : Int) < 3 := by omega
    by_cases hbl2 : b.length ≤ i
    · have hd : b.drop i = [] := List.drop_of_length_le (by omega)
      have hp : preN 4 0 b = 40 := by
        rw [hpre, hd]
        obtain ⟨m, hm⟩ : ∃ m, 4 - i = m + 1 := ⟨3 - i, by omega⟩
        rw [hm]; rfl
      have hnx : (nextF b).2.1 = 40 := by unfold nextF; rw [if_pos hp]; rfl
      have i2 : (b.length : Int) ≤ (i : Int) := by omega
      obtain ⟨wq, Sq, Lq, Kq⟩ := zfin hr3 K3
      rw [hnx]
      simp -implicitDefEqProofs only [go_sem, seval, g0, g2, g5, g6, i1, i2, Sq, Lq]
      exact ⟨⟨[.int .u8 0, .int .u32 0, .int .u32 0, .int .u64 0, .int .u8 0, .int .u32 0, .string ⟨#[]⟩, .string ⟨#[]⟩, .int .u8 0, .int .u8 0, .bool false, .int .u8 0, .int .u16 0, .slice none 0 0, .int .u32 0, .slice none 0 0, .int .u16 0, .int .u16 0, .slice none 0 0, .slice none 0 0, .slice none 0 0, .int .u32 0, .int .u32 0, .slice none 0 0, .int .u64 0, .slice none 0 0, .slice none 0 0, .slice none 0 0], _, rfl, rfl, rfl, fun h => absurd h (by decide)⟩, Kq⟩
    · have hd : b.drop i = b[i] :: b.drop (i + 1) := List.drop_eq_getElem_cons (by omega)
      have hstep : preN 4 0 b = if at4 i b[i] = 0 then preN (4 - (i + 1)) (i + 1) (b.drop (i + 1)) else at4 i b[i] := by
        rw [hpre, hd]
        obtain ⟨m, hm⟩ : ∃ m, 4 - i = m + 1 := ⟨3 - i, by omega⟩
        have : 4 - (i + 1) = m := by omega
        rw [hm, this]; rfl
      have i2 : ¬ (b.length : Int) ≤ (i : Int) := by omega
      have kd : Keep w2 w3.drew := k3.tr (Fx.drew _ _)
      have kdd : Keep w2 w3.drew.drew := kd.tr (Fx.drew _ _)
      have : i = 0 ∨ i = 1 ∨ i = 2 := by omega
      rcases this with rfl | rfl | rfl
      · have g6' : f 6 = .int .i64 0 := g6
        have i2' : ¬ (b.length : Int) ≤ 0 := i2
        have i3' : (0 : Int) < (b.length : Int) := by omega
        have j3 : (0 : Int) < ((3 : Nat) : Int) := by decide
        simp -implicitDefEqProofs only [go_sem, seval, g0, g2, g5, g6', i2', i3', j3]
        by_cases hx : b[0] = 76
        · have z : (b[0] != 76) = false := by simp [hx]
          have h0 : at4 0 b[0] = 0 := by simp [at4, hx]
          rw [if_pos h0] at hstep
          refine seg_intro (fun wz => Keep w2 wz) kd ?_
          simp -implicitDefEqProofs only [go_sem, seval, g0, g2, g5, g6', i3']
          refine hld_intro (.int .u8 b[0]) kd (fun wz kz => by have := ldb0 wz kz; simp -implicitDefEqProofs only [go_sem, seval, this]; exact ⟨trivial, trivial⟩) ?_
          have lw1 := ldw w3.drew kd
          simp -implicitDefEqProofs only [go_sem, seval, lw1]
          refine goE_intro kd ?_
          simp -implicitDefEqProofs only [go_sem, seval, z, g0, g2, g5, g6', i3', j3]
          refine seg_intro (fun wz => Keep w2 wz) kdd ?_
          simp -implicitDefEqProofs only [go_sem, seval, g0, g2, g5, g6', i3']
          refine hld_intro (.int .u8 b[0]) kdd (fun wz kz => by have := ldb0 wz kz; simp -implicitDefEqProofs only [go_sem, seval, this]; exact ⟨trivial, trivial⟩) ?_
          have lw2 := ldw w3.drew.drew kdd
          simp -implicitDefEqProofs only [go_sem, seval, lw2]
          refine goE_intro kdd ?_
          simp -implicitDefEqProofs only [go_sem, seval, z, g0, g2, g5, g6']
          exact ⟨2, by omega, 1, rfl, by omega, by omega, by simp -implicitDefEqProofs only [go_sem, seval, g0], by simp -implicitDefEqProofs only [go_sem, seval, g2], by simp -implicitDefEqProofs only [go_sem, seval, g5], by simp -implicitDefEqProofs only [go_sem, seval] <;> rfl, hstep, hr3, kdd⟩
        · have z : (b[0] != 76) = true := by simp [hx]
          have h0 : at4 0 b[0] = 70 := by simp [at4, hx]
          rw [h0, if_neg (by decide)] at hstep
          have hnx : (nextF b).2.1 = 70 := by unfold nextF; rw [hstep]; rfl
          rw [hnx]
          refine seg_intro (fun wz => Keep w2 wz) kd ?_
          simp -implicitDefEqProofs only [go_sem, seval, g0, g2, g5, g6', i3']
          refine hld_intro (.int .u8 b[0]) kd (fun wz kz => by have := ldb0 wz kz; simp -implicitDefEqProofs only [go_sem, seval, this]; exact ⟨trivial, trivial⟩) ?_
          have lw1 := ldw w3.drew kd
          simp -implicitDefEqProofs only [go_sem, seval, lw1]
          refine goE_intro kd ?_
          simp -implicitDefEqProofs only [go_sem, seval, z, g0, g2, g5, g6', i3', j3]
          obtain ⟨wq, Sq, Lq, Kq⟩ := zfin (wz := w3.drew) hr3 (K3.tr (Fx.drew _ _))
          simp -implicitDefEqProofs only [go_sem, seval, g2, Sq, Lq]
          exact ⟨⟨[.int .u8 0, .int .u32 0, .int .u32 0, .int .u64 0, .int .u8 0, .int .u32 0, .string ⟨#[]⟩, .string ⟨#[]⟩, .int .u8 0, .int .u8 0, .bool false, .int .u8 0, .int .u16 0, .slice none 0 0, .int .u32 0, .slice none 0 0, .int .u16 0, .int .u16 0, .slice none 0 0, .slice none 0 0, .slice none 0 0, .int .u32 0, .int .u32 0, .slice none 0 0, .int .u64 0, .slice none 0 0, .slice none 0 0, .slice none 0 0], _, rfl, rfl, rfl, fun h => absurd h (by decide)⟩, Kq⟩
      · have g6' : f 6 = .int .i64 1 := g6
        have i2' : ¬ (b.length : Int) ≤ 1 := i2
        have i3' : (1 : Int) < (b.length : Int) := by omega
        have j3 : (1 : Int) < ((3 : Nat) : Int) := by decide
        simp -implicitDefEqProofs only [go_sem, seval, g0, g2, g5, g6', i2', i3', j3]
        by_cases hx : b[1] = 68
        · have z : (b[1] != 68) = false := by simp [hx]
          have h0 : at4 1 b[1] = 0 := by simp [at4, hx]
          rw [if_pos h0] at hstep
          refine seg_intro (fun wz => Keep w2 wz) kd ?_
          simp -implicitDefEqProofs only [go_sem, seval, g0, g2, g5, g6', i3']
          refine hld_intro (.int .u8 b[1]) kd (fun wz kz => by have := ldb wz kz 1 (by omega); simp -implicitDefEqProofs only [go_sem, seval, this]; exact ⟨trivial, trivial⟩) ?_
          have lw1 := ldw w3.drew kd
          simp -implicitDefEqProofs only [go_sem, seval, lw1]
          refine goE_intro kd ?_
          simp -implicitDefEqProofs only [go_sem, seval, z, g0, g2, g5, g6', i3', j3]
          refine seg_intro (fun wz => Keep w2 wz) kdd ?_
          simp -implicitDefEqProofs only [go_sem, seval, g0, g2, g5, g6', i3']
          refine hld_intro (.int .u8 b[1]) kdd (fun wz kz => by have := ldb wz kz 1 (by omega); simp -implicitDefEqProofs only [go_sem, seval, this]; exact ⟨trivial, trivial⟩) ?_
          have lw2 := ldw w3.drew.drew kdd
          simp -implicitDefEqProofs only [go_sem, seval, lw2]
          refine goE_intro kdd ?_
          simp -implicitDefEqProofs only [go_sem, seval, z, g0, g2, g5, g6']
          exact ⟨1, by omega, 2, rfl, by omega, by omega, by simp -implicitDefEqProofs only [go_sem, seval, g0], by simp -implicitDefEqProofs only [go_sem, seval, g2], by simp -implicitDefEqProofs only [go_sem, seval, g5], by simp -implicitDefEqProofs only [go_sem, seval] <;> rfl, hstep, hr3, kdd⟩
        · have z : (b[1] != 68) = true := by simp [hx]
          have h0 : at4 1 b[1] = 70 := by simp [at4, hx]
          rw [h0, if_neg (by decide)] at hstep
          have hnx : (nextF b).2.1 = 70 := by unfold nextF; rw [hstep]; rfl
          rw [hnx]
          refine seg_intro (fun wz => Keep w2 wz) kd ?_
          simp -implicitDefEqProofs only [go_sem, seval, g0, g2, g5, g6', i3']
          refine hld_intro (.int .u8 b[1]) kd (fun wz kz => by have := ldb wz kz 1 (by omega); simp -implicitDefEqProofs only [go_sem, seval, this]; exact ⟨trivial, trivial⟩) ?_
          have lw1 := ldw w3.drew kd
          simp -implicitDefEqProofs only [go_sem, seval, lw1]
          refine goE_intro kd ?_
          simp -implicitDefEqProofs only [go_sem, seval, z, g0, g2, g5, g6', i3', j3]
          obtain ⟨wq, Sq, Lq, Kq⟩ := zfin (wz := w3.drew) hr3 (K3.tr (Fx.drew _ _))
          simp -implicitDefEqProofs only [go_sem, seval, g2, Sq, Lq]
          exact ⟨⟨[.int .u8 0, .int .u32 0, .int .u32 0, .int .u64 0, .int .u8 0, .int .u32 0, .string ⟨#[]⟩, .string ⟨#[]⟩, .int .u8 0, .int .u8 0, .bool false, .int .u8 0, .int .u16 0, .slice none 0 0, .int .u32 0, .slice none 0 0, .int .u16 0, .int .u16 0, .slice none 0 0, .slice none 0 0, .slice none 0 0, .int .u32 0, .int .u32 0, .slice none 0 0, .int .u64 0, .slice none 0 0, .slice none 0 0, .slice none 0 0], _, rfl, rfl, rfl, fun h => absurd h (by decide)⟩, Kq⟩
      · have g6' : f 6 = .int .i64 2 := g6
        have i2' : ¬ (b.length : Int) ≤ 2 := i2
        have i3' : (2 : Int) < (b.length : Int) := by omega
        have j3 : (2 : Int) < ((3 : Nat) : Int) := by decide
        simp -implicitDefEqProofs only [go_sem, seval, g0, g2, g5, g6', i2', i3', j3]
        by_cases hx : b[2] = 1
        · have z : (b[2] != 1) = false := by simp [hx]
          have h0 : at4 2 b[2] = 0 := by simp [at4, hx]
          rw [if_pos h0] at hstep
          refine seg_intro (fun wz => Keep w2 wz) kd ?_
          simp -implicitDefEqProofs only [go_sem, seval, g0, g2, g5, g6', i3']
          refine hld_intro (.int .u8 b[2]) kd (fun wz kz => by have := ldb wz kz 2 (by omega); simp -implicitDefEqProofs only [go_sem, seval, this]; exact ⟨trivial, trivial⟩) ?_
          have lw1 := ldw w3.drew kd
          simp -implicitDefEqProofs only [go_sem, seval, lw1]
          refine goE_intro kd ?_
          simp -implicitDefEqProofs only [go_sem, seval, z, g0, g2, g5, g6', i3', j3]
          refine seg_intro (fun wz => Keep w2 wz) kdd ?_
          simp -implicitDefEqProofs only [go_sem, seval, g0, g2, g5, g6', i3']
          refine hld_intro (.int .u8 b[2]) kdd (fun wz kz => by have := ldb wz kz 2 (by omega); simp -implicitDefEqProofs only [go_sem, seval, this]; exact ⟨trivial, trivial⟩) ?_
          have lw2 := ldw w3.drew.drew kdd
          simp -implicitDefEqProofs only [go_sem, seval, lw2]
          refine goE_intro kdd ?_
          simp -implicitDefEqProofs only [go_sem, seval, z, g0, g2, g5, g6']
          exact ⟨0, by omega, 3, rfl, by omega, by omega, by simp -implicitDefEqProofs only [go_sem, seval, g0], by simp -implicitDefEqProofs only [go_sem, seval, g2], by simp -implicitDefEqProofs only [go_sem, seval, g5], by simp -implicitDefEqProofs only [go_sem, seval] <;> rfl, hstep, hr3, kdd⟩
        · have z : (b[2] != 1) = true := by simp [hx]
          have h0 : at4 2 b[2] = 71 := by simp [at4, hx]
          rw [h0, if_neg (by decide)] at hstep
          have hnx : (nextF b).2.1 = 71 := by unfold nextF; rw [hstep]; rfl
          rw [hnx]
          refine seg_intro (fun wz => Keep w2 wz) kd ?_
          simp -implicitDefEqProofs only [go_sem, seval, g0, g2, g5, g6', i3']
          refine hld_intro (.int .u8 b[2]) kd (fun wz kz => by have := ldb wz kz 2 (by omega); simp -implicitDefEqProofs only [go_sem, seval, this]; exact ⟨trivial, trivial⟩) ?_
          have lw1 := ldw w3.drew kd
          simp -implicitDefEqProofs only [go_sem, seval, lw1]
          refine goE_intro kd ?_
          simp -implicitDefEqProofs only [go_sem, seval, z, g0, g2, g5, g6', i3', j3]
          refine seg_intro (fun wz => Keep w2 wz) kdd ?_
          simp -implicitDefEqProofs only [go_sem, seval, g0, g2, g5, g6', i3']
          refine hld_intro (.int .u8 b[2]) kdd (fun wz kz => by have := ldb wz kz 2 (by omega); simp -implicitDefEqProofs only [go_sem, seval, this]; exact ⟨trivial, trivial⟩) ?_
          have lw2 := ldw w3.drew.drew kdd
          simp -implicitDefEqProofs only [go_sem, seval, lw2]
          refine goE_intro kdd ?_
          simp -implicitDefEqProofs only [go_sem, seval, z, g0, g2, g5, g6']
          obtain ⟨wq, Sq, Lq, Kq⟩ := zfin (wz := w3.drew.drew) hr3 (K3.tr ((Fx.drew _ _).tr (Fx.drew _ _)))
          simp -implicitDefEqProofs only [go_sem, seval, g2, Sq, Lq]
          exact ⟨⟨[.int .u8 0, .int .u32 0, .int .u32 0, .int .u64 0, .int .u8 0, .int .u32 0, .string ⟨#[]⟩, .string ⟨#[]⟩, .int .u8 0, .int .u8 0, .bool false, .int .u8 0, .int .u16 0, .slice none 0 0, .int .u32 0, .slice none 0 0, .int .u16 0, .int .u16 0, .slice none 0 0, .slice none 0 0, .slice none 0 0, .int .u32 0, .int .u32 0, .slice none 0 0, .int .u64 0, .slice none 0 0, .slice none 0 0, .slice none 0 0], _, rfl, rfl, rfl, fun h => absurd h (by decide)⟩, Kq⟩
  · have hi3 : i = 3 := by omega
    subst hi3
    have g6' : f 6 = .int .i64 3 := g6
    have K2' := K3
    by_cases hb3 : b.length = 3
    · have hd : b.drop 3 = [] := List.drop_of_length_le (by omega)
      have hp : preN 4 0 b = 40 := by rw [hpre, hd]; rfl
      have hnx : (nextF b).2.1 = 40 := by unfold nextF; rw [if_pos hp]; rfl
      have z3 : ((b.length : Int) == 3) = true := by rw [hb3]; rfl
      obtain ⟨wq, Sq, Lq, Kq⟩ := zfin hr3 K3
      rw [hnx]
      simp -implicitDefEqProofs only [go_sem, seval, g0, g2, g5, g6', z3, Sq, Lq]
      exact ⟨⟨[.int .u8 0, .int .u32 0, .int .u32 0, .int .u64 0, .int .u8 0, .int .u32 0, .string ⟨#[]⟩, .string ⟨#[]⟩, .int .u8 0, .int .u8 0, .bool false, .int .u8 0, .int .u16 0, .slice none 0 0, .int .u32 0, .slice none 0 0, .int .u16 0, .int .u16 0, .slice none 0 0, .slice none 0 0, .slice none 0 0, .int .u32 0, .int .u32 0, .slice none 0 0, .int .u64 0, .slice none 0 0, .slice none 0 0, .slice none 0 0], _, rfl, rfl, rfl, fun h => absurd h (by decide)⟩, Kq⟩
    have z3 : ((b.length : Int) == 3) = false := by rw [beq_eq_false_iff_ne]; omega
    have hd : b.drop 3 = b[3] :: b.drop 4 := List.drop_eq_getElem_cons (by omega)
    have hstep : preN 4 0 b = if at4 3 b[3] = 0 then 0 else at4 3 b[3] := by rw [hpre, hd]; rfl
    have l3 := ldb w3 k3 3 (by omega)
    have i3 : (3 : Int) < (b.length : Int) := by omega
    by_cases hx : 1 ≤ b[3] ∧ b[3] ≤ 24
    case neg =>
      have h0 : at4 3 b[3] = 61 := by simp [at4]; omega
      rw [h0, if_neg (by decide)] at hstep
      have hnx : (nextF b).2.1 = 61 := by unfold nextF; rw [hstep]; rfl
      have both : ∀ (K : Prop), (b[3] < 1 → K) → (¬ b[3] < 1 → (24 : Int) < b[3] → K) → K := fun K a1 a2 => by
        by_cases h : b[3] < 1
        · exact a1 h
        · exact a2 h (by omega)
      obtain ⟨wq, Sq, Lq, Kq⟩ := zfin hr3 K3
      rw [hnx]
      refine both _ (fun z => ?_) (fun z z' => ?_)
      · simp -implicitDefEqProofs only [go_sem, seval, g0, g2, g5, g6', z3, i3, l3, z, Sq, Lq]
        exact ⟨⟨[.int .u8 0, .int .u32 0, .int .u32 0, .int .u64 0, .int .u8 0, .int .u32 0, .string ⟨#[]⟩, .string ⟨#[]⟩, .int .u8 0, .int .u8 0, .bool false, .int .u8 0, .int .u16 0, .slice none 0 0, .int .u32 0, .slice none 0 0, .int .u16 0, .int .u16 0, .slice none 0 0, .slice none 0 0, .slice none 0 0, .int .u32 0, .int .u32 0, .slice none 0 0, .int .u64 0, .slice none 0 0, .slice none 0 0, .slice none 0 0], _, rfl, rfl, rfl, fun h => absurd h (by decide)⟩, Kq⟩
      · simp -implicitDefEqProofs only [go_sem, seval, g0, g2, g5, g6', z3, i3, l3, z, z', Sq, Lq]
        exact ⟨⟨[.int .u8 0, .int .u32 0, .int .u32 0, .int .u64 0, .int .u8 0, .int .u32 0, .string ⟨#[]⟩, .string ⟨#[]⟩, .int .u8 0, .int .u8 0, .bool false, .int .u8 0, .int .u16 0, .slice none 0 0, .int .u32 0, .slice none 0 0, .int .u16 0, .int .u16 0, .slice none 0 0, .slice none 0 0, .slice none 0 0, .int .u32 0, .int .u32 0, .slice none 0 0, .int .u64 0, .slice none 0 0, .slice none 0 0, .slice none 0 0], _, rfl, rfl, rfl, fun h => absurd h (by decide)⟩, Kq⟩
    have z : ¬ b[3] < 1 := by omega
    have z' : ¬ (24 : Int) < b[3] := by omega
    have h0 : at4 3 b[3] = 0 := by simp [at4]; omega
    rw [h0, if_pos rfl] at hstep
    have hp0 : preN 4 0 b = 0 := hstep
    have u1 : 4 ≤ b.length := by omega
    have u1' : (4 : Int) ≤ (b.length : Int) := by omega
    have hnf : nextF b = if (vget (b.drop 4)).2.2 = 41 then failF 41 else if (vget (b.drop 4)).2.2 ≠ 0 then moreF b else
        if 4096 < (vget (b.drop 4)).1 then failF 72 else
        if b.length < 4 + (vget (b.drop 4)).2.1.toNat + (vget (b.drop 4)).1.toNat + 4 then moreF b else
        if sum4 (crcI (b.take (4 + (vget (b.drop 4)).2.1.toNat + (vget (b.drop 4)).1.toNat))) ≠ (b.drop (4 + (vget (b.drop 4)).2.1.toNat + (vget (b.drop 4)).1.toNat)).take 4 then failF 73 else
        if (getMsg (b[3]?.getD 0) ((b.take (4 + (vget (b.drop 4)).2.1.toNat + (vget (b.drop 4)).1.toNat)).drop (4 + (vget (b.drop 4)).2.1.toNat))).2 ≠ 0 then failF (getMsg (b[3]?.getD 0) ((b.take (4 + (vget (b.drop 4)).2.1.toNat + (vget (b.drop 4)).1.toNat)).drop (4 + (vget (b.drop 4)).2.1.toNat))).2 else
        ((getMsg (b[3]?.getD 0) ((b.take (4 + (vget (b.drop 4)).2.1.toNat + (vget (b.drop 4)).1.toNat)).drop (4 + (vget (b.drop 4)).2.1.toNat))).1, 0, b.drop (4 + (vget (b.drop 4)).2.1.toNat + (vget (b.drop 4)).1.toNat + 4), 0) := by
      unfold nextF
      rw [if_neg (by rw [hp0]; decide), if_neg (by rw [hp0]; simp)]
    have hr1 : RdI w3 .u8 (some (At gb o)) b := hrd.fx K3 (fun _ _ h => h)
    simp -implicitDefEqProofs only [go_sem, seval, g0, g2, g5, g6', z3, i3, l3, z, z', u1, u1', hc]
    have hr4 := hr1.cut 4 c hc
    have hl4 : (b.drop 4).length = b.length - 4 := List.length_drop ..
    rw [← hl4]
    refine (refGet_calls hr4 (hbs.drop 4) (by omega) (by omega)).mono ?_
    rintro v w4 ⟨rfl, q4⟩
    have k4 := k3.tr q4
    have K3 := K2.tr k4
    have hr3 := q4.blk hr3 (fun h => h)
    have hr1 := hr1.fx q4 (fun _ _ h => h)
    obtain ⟨n, hn, en⟩ := vget_range (hbs.drop 4)
    have hus : (vget (b.drop 4)).2.2 = 0 → 0 ≤ (vget (b.drop 4)).2.1 ∧ (vget (b.drop 4)).2.1 ≤ ((b.drop 4).length : Int) := fun h => vget_used (hbs.drop 4) h
    have herr : (vget (b.drop 4)).2.2 = 0 ∨ (vget (b.drop 4)).2.2 = 40 ∨ (vget (b.drop 4)).2.2 = 41 := vgetFrom_err _ _ _
    generalize vget (b.drop 4) = V at *
    obtain ⟨V1, V2, V3⟩ := V
    simp only at en hus hnf herr
    subst en
    by_cases h0 : V3 = 0
    case neg =>
      have zz : (V3 != 0) = true := by rw [bne_iff_ne]; exact h0
      have hnx : (nextF b).2.1 = V3 := by
        rw [hnf]
        rcases herr with h | h | h
        · exact absurd h h0
        · subst h; rw [if_neg (by decide), if_pos (by decide)]; rfl
        · subst h; rw [if_pos rfl]; rfl
      obtain ⟨wq, Sq, Lq, Kq⟩ := zfin hr3 K3
      rw [hnx]
      simp -implicitDefEqProofs only [go_sem, seval, getV, zz, g0, g2, Sq, Lq]
      exact ⟨⟨[.int .u8 0, .int .u32 0, .int .u32 0, .int .u64 0, .int .u8 0, .int .u32 0, .string ⟨#[]⟩, .string ⟨#[]⟩, .int .u8 0, .int .u8 0, .bool false, .int .u8 0, .int .u16 0, .slice none 0 0, .int .u32 0, .slice none 0 0, .int .u16 0, .int .u16 0, .slice none 0 0, .slice none 0 0, .slice none 0 0, .int .u32 0, .int .u32 0, .slice none 0 0, .int .u64 0, .slice none 0 0, .slice none 0 0, .slice none 0 0], _, rfl, rfl, rfl, fun h => absurd h h0⟩, Kq⟩
    subst h0
    obtain ⟨u0, u2⟩ := hus rfl
    obtain ⟨u, rfl⟩ := Int.eq_ofNat_of_zero_le u0
    have u3 : u + 4 ≤ b.length := by
      have : ((u : Nat) : Int) ≤ ((b.drop 4).length : Int) := u2
      omega
    have zz : ((0 : Int) != 0) = false := rfl
    rw [if_neg (by decide), if_neg (by decide)] at hnf
    by_cases hbig : (4096 : Int) < (n : Int)
    · rw [if_pos hbig] at hnf
      obtain ⟨wq, Sq, Lq, Kq⟩ := zfin hr3 K3
      rw [hnf]
      simp -implicitDefEqProofs only [go_sem, seval, getV, zz, hbig, g0, g2, Sq, Lq]
      exact ⟨⟨[.int .u8 0, .int .u32 0, .int .u32 0, .int .u64 0, .int .u8 0, .int .u32 0, .string ⟨#[]⟩, .string ⟨#[]⟩, .int .u8 0, .int .u8 0, .bool false, .int .u8 0, .int .u16 0, .slice none 0 0, .int .u32 0, .slice none 0 0, .int .u16 0, .int .u16 0, .slice none 0 0, .slice none 0 0, .slice none 0 0, .int .u32 0, .int .u32 0, .slice none 0 0, .int .u64 0, .slice none 0 0, .slice none 0 0, .slice none 0 0], _, rfl, rfl, rfl, fun h => absurd h (by decide)⟩, Kq⟩
    rw [if_neg hbig] at hnf
    rw [Int.toNat_natCast, Int.toNat_natCast] at hnf
    obtain ⟨to, hto⟩ : ∃ to, to = 4 + u + n := ⟨_, rfl⟩
    rw [← hto] at hnf
    have e1 : IntKind.i64.wrap (4 + (u : Int)) = ((4 + u : Nat) : Int) := i64_nat (by omega) (by omega)
    have e2 : IntKind.i64.wrap (n : Int) = (n : Int) := i64_nat (by omega) (by omega)
    have e3 : IntKind.i64.wrap (((4 + u : Nat) : Int) + (n : Int)) = (to : Int) := by rw [i64_nat (by omega) (by omega)]; omega
    have e4 : IntKind.i64.wrap ((to : Int) + 4) = ((to + 4 : Nat) : Int) := i64_nat (by omega) (by omega)
    by_cases hshort : b.length < to + 4
    · rw [if_pos hshort] at hnf
      have zs : (b.length : Int) < ((to + 4 : Nat) : Int) := by omega
      obtain ⟨wq, Sq, Lq, Kq⟩ := zfin hr3 K3
      rw [hnf]
      simp -implicitDefEqProofs only [go_sem, seval, getV, zz, hbig, e1, e2, e3, e4, zs, g0, g2, Sq, Lq]
      exact ⟨⟨[.int .u8 0, .int .u32 0, .int .u32 0, .int .u64 0, .int .u8 0, .int .u32 0, .string ⟨#[]⟩, .string ⟨#[]⟩, .int .u8 0, .int .u8 0, .bool false, .int .u8 0, .int .u16 0, .slice none 0 0, .int .u32 0, .slice none 0 0, .int .u16 0, .int .u16 0, .slice none 0 0, .slice none 0 0, .slice none 0 0, .int .u32 0, .int .u32 0, .slice none 0 0, .int .u64 0, .slice none 0 0, .slice none 0 0, .slice none 0 0], _, rfl, rfl, rfl, fun h => absurd h (show (40 : Int) ≠ 0 by decide)⟩, Kq⟩
    rw [if_neg hshort] at hnf
    have zs : ¬ (b.length : Int) < ((to + 4 : Nat) : Int) := by omega
    simp -implicitDefEqProofs only [go_sem, seval, getV, zz, hbig, e1, e2, e3, e4, zs, g0, g2]
    have ht1 : to ≤ b.length := by omega
    have ht2 : (to : Int) ≤ (b.length : Int) := by omega
    have ht0 : (0 : Int) ≤ (to : Int) := by omega
    have ht3 : to ≤ c := by omega
    have ht4 : (to : Int) ≤ (c : Int) := by omega
    have d0 : (0 : Int) ≤ ((to + 4 : Nat) : Int) := by omega
    have d1 : to ≤ to + 4 := by omega
    have d2 : to + 4 ≤ c := by omega
    have d3 : to + 4 - to = 4 := by omega
    have d4 : ((to + 4 : Nat) : Int) ≤ (c : Int) := by omega
    have d5 : (to : Int) ≤ ((to + 4 : Nat) : Int) := by omega
    have hl1 : (b.take to).length = to := by rw [List.length_take]; omega
    have hrt : RdI w4 .u8 (cutA (some (At gb o)) to c 1) ((b.drop to).take 4) := (hr1.cut to c hc).take 4
    have hl4' : ((b.drop to).take 4).length = 4 := by rw [List.length_take, List.length_drop]; omega
    simp -implicitDefEqProofs only [go_sem, seval, g0, g2, ht0, ht4, e4, d0, d4, d5, d3]
    refine seg_intro (fun wz => Keep w4 wz) (Fx.drew _ _) ?_
    simp -implicitDefEqProofs only [go_sem, seval]
    refine hld_intro (.string (strOfNums ((b.drop to).take 4))) (Fx.drew _ _) (fun wz kz => ?_) ?_
    · have hq := hrt.fx kz (fun _ _ h => h)
      simp -implicitDefEqProofs only [go_sem, seval]
      refine cv_bytesN bs8 hl4' hq ?_
      exact ⟨by first | rfl | trivial, by first | rfl | trivial⟩
    simp -implicitDefEqProofs only [go_sem, seval]
    have kd : Keep w4 w4.drew := Fx.drew _ _
    have hsum := refSum_calls (w := w4.drew) (A := some (At gb o)) (c := c) (b := b.take to) ((hr1.take to).fx kd (fun _ _ h => h)) (hbs.take to) (by omega)
    rw [hl1] at hsum
    refine hsum.mono ?_
    rintro v w5 ⟨⟨A5, rfl, hr5⟩, k5⟩
    have k45 := kd.tr k5
    refine goE_intro k45 ?_
    simp -implicitDefEqProofs only [go_sem, seval]
    refine cv_bytesN (n := 4) bs8 rfl hr5 ?_
    refine goE_intro k45 ?_
    have hbt : Bs ((b.drop to).take 4) := (hbs.drop to).take 4
    have hseq := beq_iff_eq.trans (str_eq (sum4_bs (crcI (b.take to))) hbt)
    have K5 := K3.tr k45
    have hr35 := k45.blk hr3 (fun h => h)
    have k25 := k4.tr k45
    by_cases hs : sum4 (crcI (b.take to)) = (b.drop to).take 4
    case neg =>
      rw [if_pos hs] at hnf
      have zq : ((strOfNums (sum4 (crcI (b.take to)))).toList == (strOfNums ((b.drop to).take 4)).toList) = false := by
        cases hq : ((strOfNums (sum4 (crcI (b.take to)))).toList == (strOfNums ((b.drop to).take 4)).toList) with
        | false => rfl
        | true => exact absurd (hseq.1 hq) hs
      obtain ⟨wq, Sq, Lq, Kq⟩ := zfin hr35 K5
      rw [hnf]
      simp -implicitDefEqProofs only [go_sem, seval, zq, g0, g2, Sq, Lq]
      exact ⟨⟨[.int .u8 0, .int .u32 0, .int .u32 0, .int .u64 0, .int .u8 0, .int .u32 0, .string ⟨#[]⟩, .string ⟨#[]⟩, .int .u8 0, .int .u8 0, .bool false, .int .u8 0, .int .u16 0, .slice none 0 0, .int .u32 0, .slice none 0 0, .int .u16 0, .int .u16 0, .slice none 0 0, .slice none 0 0, .slice none 0 0, .int .u32 0, .int .u32 0, .slice none 0 0, .int .u64 0, .slice none 0 0, .slice none 0 0, .slice none 0 0], _, rfl, rfl, rfl, fun h => absurd h (by decide)⟩, Kq⟩
    rw [if_neg (fun h => h hs)] at hnf
    have zq : ((strOfNums (sum4 (crcI (b.take to)))).toList == (strOfNums ((b.drop to).take 4)).toList) = true := hseq.2 hs
    simp -implicitDefEqProofs only [go_sem, seval, zq, g0, g2]
    have hb3' : b[3]?.getD 0 = b[3] := by rw [List.getElem?_eq_getElem (by omega)]; rfl
    rw [hb3'] at hnf
    have hbody : (b.take to).drop (4 + u) = (b.drop (4 + u)).take (to - (4 + u)) := by rw [List.drop_take]
    rw [hbody] at hnf
    have rdc := ((hr1.fx k45 (fun _ _ h => h)).cut (4 + u) c hc).take (to - (4 + u))
    have hle : ((b.drop (4 + u)).take (to - (4 + u))).length = to - (4 + u) := by rw [List.length_take, List.length_drop]; omega
    have hbb : Bs ((b.drop (4 + u)).take (to - (4 + u))) := (hbs.drop _).take _
    have d8 : cutA (some (At gb o)) (4 + u) c 1 = some (At gb (o + (4 + u))) := by
      unfold cutA
      rw [if_neg (by omega)]
      show some ((At gb o).add ((4 + u) * 1)) = _
      rw [at_add, Nat.mul_one]
    rw [d8] at rdc
    have y33 := hbs b[3] (List.getElem_mem _)
    have c1 : (0 : Int) ≤ ((4 + u : Nat) : Int) := by omega
    have c2 : ((4 + u : Nat) : Int) ≤ (to : Int) := by omega
    have s25 := k25.size
    have s2 := K2.size
    have getx : ∀ wz, Keep w5 wz → callK Tryz.prog 32 #[.int .u8 b[3], .slice (some (At gb (o + (4 + u)))) (to - (4 + u)) (c - (4 + u))] wz fun v w' => ∃ cs, v = .tuple #[.agg (List.toArray cs), .int .i64 (getMsg b[3] ((b.drop (4 + u)).take (to - (4 + u)))).2] ∧ kMsg.rep (fun k => wz.heap.size ≤ k) w' (getMsg b[3] ((b.drop (4 + u)).take (to - (4 + u)))).1 cs ∧ Keep wz w' := by
      intro wz kz
      have := refRead_calls (w := wz) (A0 := some (At gb (o + (4 + u)))) (c := c - (4 + u)) (b := (b.drop (4 + u)).take (to - (4 + u))) y33.1 y33.2 (by omega) (by simp only [maxLen]; omega) (elems_of (rdc.fx kz (fun _ _ h => h)) (fun ad e _ => by cases e; have := kz.size; show gb < _; omega) (fun x hx => u8_wf (hbb x hx).1 (hbb x hx).2))
      rw [hle] at this
      exact this
    generalize (b.drop (4 + u)).take (to - (4 + u)) = body at *
    have ldb5 : ∀ wz, Keep w5 wz → wz.cell? (At gb (o + 3)) = some (.int .u8 b[3]) := fun wz kz => ldb wz (k25.tr kz) 3 (by omega)
    refine frs_cut (T := fun f w' => ∃ xb cs, f 2 = .pointer (some (At rr 0)) ∧ f 10 = .int .i64 to ∧ f 11 = .pointer (some (At xb 0)) ∧ f 12 = .int .i64 (getMsg b[3] body).2 ∧ Blk w' xb 37 (List.toArray cs) ∧ cs.length = 28 ∧ allOne cs = true ∧ Keep w5 w') ?_ ?_
    · rintro f w6 ⟨xb, cs, g2, g10, g11, g12, hx6, hcl6, h16, k6⟩
      have hr36 := k6.blk hr35 (fun h => h)
      have K6 := K5.tr k6
      by_cases he0 : (getMsg b[3] body).2 = 0
      case neg =>
        rw [if_pos he0] at hnf
        have ze : ((getMsg b[3] body).2 != 0) = true := by rw [bne_iff_ne]; exact he0
        obtain ⟨wq, Sq, Lq, Kq⟩ := zfin hr36 K6
        rw [hnf]
        simp -implicitDefEqProofs only [go_sem, seval, g2, g10, g11, g12, ze, Sq, Lq]
        exact ⟨⟨[.int .u8 0, .int .u32 0, .int .u32 0, .int .u64 0, .int .u8 0, .int .u32 0, .string ⟨#[]⟩, .string ⟨#[]⟩, .int .u8 0, .int .u8 0, .bool false, .int .u8 0, .int .u16 0, .slice none 0 0, .int .u32 0, .slice none 0 0, .int .u16 0, .int .u16 0, .slice none 0 0, .slice none 0 0, .slice none 0 0, .int .u32 0, .int .u32 0, .slice none 0 0, .int .u64 0, .slice none 0 0, .slice none 0 0, .slice none 0 0], _, rfl, rfl, rfl, fun h => absurd h he0⟩, Kq⟩
      rw [if_neg (fun h => h he0)] at hnf
      have ze : ((getMsg b[3] body).2 != 0) = false := by rw [bne_eq_false_iff_eq]; exact he0
      have hci := cells_in hx6 0 28
      rw [List.drop_zero, List.take_of_length_le (by omega)] at hci
      have ld6 := ldV_agg (P := Tryz.prog) (w := w6) sh37 hcl6 hci
      obtain ⟨w7, S7, hx7, f7⟩ := store_cells2 hr36 hcl6 h16
      have hci7 := cells_in hx7 0 28
      rw [List.drop_zero, List.take_of_length_le (by omega)] at hci7
      have ld7 := ldV_agg (P := Tryz.prog) (w := w7) sh37 hcl6 hci7
      simp -implicitDefEqProofs only [go_sem, seval, g2, g10, g11, g12, ze, e4, ld6, S7, ld7]
      rw [hnf]
      exact ⟨⟨cs, _, rfl, hcl6, h16, fun _ => ⟨to + 4, rfl, by omega, by omega, rfl⟩⟩, K6.new f7 (fun k e hk => by have : k = rr := e; omega)⟩
    · intro K' hK'
      have kd5 : Keep w5 w5.drew := Fx.drew _ _
      refine frs_intro (fun wz => Keep w5 wz) kd5 ?_
      simp -implicitDefEqProofs only [go_sem, seval, g0, g2, i3, c1, c2, ht4, d8, e1]
      refine hld_intro (.int .u8 b[3]) kd5 (fun wz kz => by have := ldb5 wz kz; simp -implicitDefEqProofs only [go_sem, seval, this]; exact ⟨trivial, trivial⟩) ?_
      simp -implicitDefEqProofs only [go_sem, seval]
      generalize w5.drew = wd at *
      refine frk_intro ?_ ?_
      · simp -implicitDefEqProofs only [go_sem, seval]
        refine (getx wd kd5).mono ?_
        rintro v u1 ⟨cs1, rfl, hz1, q1⟩
        have k1 := kd5.tr q1
        simp -implicitDefEqProofs only [go_sem, seval]
        refine shs_intro k1 ?_
        simp -implicitDefEqProofs only [go_sem, seval]
        refine goE_intro (k1.tr (Fx.alloc _ _ _)) ?_
        obtain ⟨y1, S1, hx1, p1, _⟩ := store_cells (w := u1) (kMsg.len hz1) (allOne_of (kMsg.one hz1))
        simp -implicitDefEqProofs only [go_sem, seval, S1]
        exact hK' _ _ ⟨u1.heap.size, cs1, by simp -implicitDefEqProofs only [go_sem, seval, g2], by simp -implicitDefEqProofs only [go_sem, seval], by simp -implicitDefEqProofs only [go_sem, seval], by simp -implicitDefEqProofs only [go_sem, seval], hx1, kMsg.len hz1, allOne_of (kMsg.one hz1), k1.tr p1⟩
      · simp -implicitDefEqProofs only [go_sem, seval]
        have s1' := kd5.size
        have k1 : Keep w5 (wd.alloc (.cells #[.int .u8 0, .int .u32 0, .int .u32 0, .int .u64 0, .int .u8 0, .int .u32 0, .string ⟨#[]⟩, .string ⟨#[]⟩, .int .u8 0, .int .u8 0, .bool false, .int .u8 0, .int .u16 0, .slice none 0 0, .int .u32 0, .slice none 0 0, .int .u16 0, .int .u16 0, .slice none 0 0, .slice none 0 0, .slice none 0 0, .int .u32 0, .int .u32 0, .slice none 0 0, .int .u64 0, .slice none 0 0, .slice none 0 0, .slice none 0 0] 37)) := kd5.tr (Fx.alloc _ _ _)
        have hb1 : Blk _ _ _ _ := Blk.new wd 37 #[.int .u8 0, .int .u32 0, .int .u32 0, .int .u64 0, .int .u8 0, .int .u32 0, .string ⟨#[]⟩, .string ⟨#[]⟩, .int .u8 0, .int .u8 0, .bool false, .int .u8 0, .int .u16 0, .slice none 0 0, .int .u32 0, .slice none 0 0, .int .u16 0, .int .u16 0, .slice none 0 0, .slice none 0 0, .slice none 0 0, .int .u32 0, .int .u32 0, .slice none 0 0, .int .u64 0, .slice none 0 0, .slice none 0 0, .slice none 0 0]
        obtain ⟨bxn, hbxn⟩ : ∃ b, b = wd.heap.size := ⟨_, rfl⟩
        rw [← hbxn] at hb1 ⊢
        generalize wd.alloc (.cells #[.int .u8 0, .int .u32 0, .int .u32 0, .int .u64 0, .int .u8 0, .int .u32 0, .string ⟨#[]⟩, .string ⟨#[]⟩, .int .u8 0, .int .u8 0, .bool false, .int .u8 0, .int .u16 0, .slice none 0 0, .int .u32 0, .slice none 0 0, .int .u16 0, .int .u16 0, .slice none 0 0, .slice none 0 0, .slice none 0 0, .int .u32 0, .int .u32 0, .slice none 0 0, .int .u64 0, .slice none 0 0, .slice none 0 0, .slice none 0 0] 37) = u1 at *
        refine shs_intro k1 ?_
        simp -implicitDefEqProofs only [go_sem, seval]
        refine (getx u1 k1).mono ?_
        rintro v u2 ⟨cs2, rfl, hz2, q2⟩
        refine goE_intro (k1.tr q2) ?_
        obtain ⟨y2, S2, hx2, p2⟩ := store_cells2 (q2.blk hb1 (fun h => h)) (kMsg.len hz2) (allOne_of (kMsg.one hz2))
        simp -implicitDefEqProofs only [go_sem, seval, S2]
        exact hK' _ _ ⟨bxn, cs2, by simp -implicitDefEqProofs only [go_sem, seval, g2], by simp -implicitDefEqProofs only [go_sem, seval], by simp -implicitDefEqProofs only [go_sem, seval], by simp -implicitDefEqProofs only [go_sem, seval], hx2, kMsg.len hz2, allOne_of (kMsg.one hz2), (k1.tr q2).new p2 (fun k e hk => by have : k = bxn := e; omega)⟩
set_option maxHeartbeats 3200000 in
theorem first_nil {w : World} {A : Option Addr} {c : Nat} {b : List Int} (hb : b = []) :
    callK Tryz.prog 14 #[.slice A b.length c] w fun v w' => (∃ cs n, v = .tuple #[.agg (List.toArray cs), .int .i64 n, .int .i64 (nextF b).2.1] ∧ cs.length = 28 ∧ allOne cs = true ∧ ((nextF b).2.1 = 0 → ∃ k : Nat, n = k ∧ 0 < k ∧ k ≤ b.length ∧ (nextF b).2.2.1 = b.drop k)) ∧ Keep w w' := by
  refine callK_of Tryz.func14 c14 r14 (by exact Nat.le_of_ble_eq_true rfl) ?_
  rw [m14]
  have hr : Blk _ _ _ _ := Blk.new w 37 #[.int .u8 0, .int .u32 0, .int .u32 0, .int .u64 0, .int .u8 0, .int .u32 0, .string ⟨#[]⟩, .string ⟨#[]⟩, .int .u8 0, .int .u8 0, .bool false, .int .u8 0, .int .u16 0, .slice none 0 0, .int .u32 0, .slice none 0 0, .int .u16 0, .int .u16 0, .slice none 0 0, .slice none 0 0, .slice none 0 0, .int .u32 0, .int .u32 0, .slice none 0 0, .int .u64 0, .slice none 0 0, .slice none 0 0, .slice none 0 0]
  have kA : Keep w (w.alloc (.cells #[.int .u8 0, .int .u32 0, .int .u32 0, .int .u64 0, .int .u8 0, .int .u32 0, .string ⟨#[]⟩, .string ⟨#[]⟩, .int .u8 0, .int .u8 0, .bool false, .int .u8 0, .int .u16 0, .slice none 0 0, .int .u32 0, .slice none 0 0, .int .u16 0, .int .u16 0, .slice none 0 0, .slice none 0 0, .slice none 0 0, .int .u32 0, .int .u32 0, .slice none 0 0, .int .u64 0, .slice none 0 0, .slice none 0 0, .slice none 0 0] 37)) := Fx.alloc _ w _
  have s1 := size_alloc w (.cells #[.int .u8 0, .int .u32 0, .int .u32 0, .int .u64 0, .int .u8 0, .int .u32 0, .string ⟨#[]⟩, .string ⟨#[]⟩, .int .u8 0, .int .u8 0, .bool false, .int .u8 0, .int .u16 0, .slice none 0 0, .int .u32 0, .slice none 0 0, .int .u16 0, .int .u16 0, .slice none 0 0, .slice none 0 0, .slice none 0 0, .int .u32 0, .int .u32 0, .slice none 0 0, .int .u64 0, .slice none 0 0, .slice none 0 0, .slice none 0 0] 37)
  simp -implicitDefEqProofs only [go_sem, seval]
  generalize w.alloc (.cells #[.int .u8 0, .int .u32 0, .int .u32 0, .int .u64 0, .int .u8 0, .int .u32 0, .string ⟨#[]⟩, .string ⟨#[]⟩, .int .u8 0, .int .u8 0, .bool false, .int .u8 0, .int .u16 0, .slice none 0 0, .int .u32 0, .slice none 0 0, .int .u16 0, .int .u16 0, .slice none 0 0, .slice none 0 0, .slice none 0 0, .int .u32 0, .int .u32 0, .slice none 0 0, .int .u64 0, .slice none 0 0, .slice none 0 0, .slice none 0 0] 37) = w1 at *
  obtain ⟨rr, hrr⟩ : ∃ rr, rr = w.heap.size := ⟨_, rfl⟩
  rw [← hrr] at hr s1 ⊢
  refine bsl_three ie8 ?_
  have hwt : Blk _ _ _ _ := Blk.new w1 5 #[.int .u8 76, .int .u8 68, .int .u8 1]
  have kB : Keep w1 (w1.alloc (.cells #[.int .u8 76, .int .u8 68, .int .u8 1] 5)) := Fx.alloc _ w1 _
  have hr2 := kB.blk hr (fun h => h)
  have K2 := kA.tr kB
  obtain ⟨gw, hgw⟩ : ∃ g, g = w1.heap.size := ⟨_, rfl⟩
  rw [← hgw] at hwt ⊢
  generalize w1.alloc (.cells #[.int .u8 76, .int .u8 68, .int .u8 1] 5) = w2 at *
  have zfin : ∀ {wz : World}, Blk wz rr 37 #[.int .u8 0, .int .u32 0, .int .u32 0, .int .u64 0, .int .u8 0, .int .u32 0, .string ⟨#[]⟩, .string ⟨#[]⟩, .int .u8 0, .int .u8 0, .bool false, .int .u8 0, .int .u16 0, .slice none 0 0, .int .u32 0, .slice none 0 0, .int .u16 0, .int .u16 0, .slice none 0 0, .slice none 0 0, .slice none 0 0, .int .u32 0, .int .u32 0, .slice none 0 0, .int .u64 0, .slice none 0 0, .slice none 0 0, .slice none 0 0] → Keep w wz → ∃ wq, stV Tryz.prog wz 37 (.pointer (some (At rr 0))) (.agg #[.int .u8 0, .int .u32 0, .int .u32 0, .int .u64 0, .int .u8 0, .int .u32 0, .string ⟨#[]⟩, .string ⟨#[]⟩, .int .u8 0, .int .u8 0, .bool false, .int .u8 0, .int .u16 0, .slice none 0 0, .int .u32 0, .slice none 0 0, .int .u16 0, .int .u16 0, .slice none 0 0, .slice none 0 0, .slice none 0 0, .int .u32 0, .int .u32 0, .slice none 0 0, .int .u64 0, .slice none 0 0, .slice none 0 0, .slice none 0 0]) = some wq ∧ ldV Tryz.prog wq 37 (.pointer (some (At rr 0))) = some (.agg #[.int .u8 0, .int .u32 0, .int .u32 0, .int .u64 0, .int .u8 0, .int .u32 0, .string ⟨#[]⟩, .string ⟨#[]⟩, .int .u8 0, .int .u8 0, .bool false, .int .u8 0, .int .u16 0, .slice none 0 0, .int .u32 0, .slice none 0 0, .int .u16 0, .int .u16 0, .slice none 0 0, .slice none 0 0, .slice none 0 0, .int .u32 0, .int .u32 0, .slice none 0 0, .int .u64 0, .slice none 0 0, .slice none 0 0, .slice none 0 0]) ∧ Keep w wq := by
    intro wz hz kz
    have FP : Fx (only rr) wz (putW wz rr 0 [.int .u8 0, .int .u32 0, .int .u32 0, .int .u64 0, .int .u8 0, .int .u32 0, .string ⟨#[]⟩, .string ⟨#[]⟩, .int .u8 0, .int .u8 0, .bool false, .int .u8 0, .int .u16 0, .slice none 0 0, .int .u32 0, .slice none 0 0, .int .u16 0, .int .u16 0, .slice none 0 0, .slice none 0 0, .slice none 0 0, .int .u32 0, .int .u32 0, .slice none 0 0, .int .u64 0, .slice none 0 0, .slice none 0 0, .slice none 0 0]) := Fx.put _ _ _ _ rfl
    exact ⟨putW wz rr 0 [.int .u8 0, .int .u32 0, .int .u32 0, .int .u64 0, .int .u8 0, .int .u32 0, .string ⟨#[]⟩, .string ⟨#[]⟩, .int .u8 0, .int .u8 0, .bool false, .int .u8 0, .int .u16 0, .slice none 0 0, .int .u32 0, .slice none 0 0, .int .u16 0, .int .u16 0, .slice none 0 0, .slice none 0 0, .slice none 0 0, .int .u32 0, .int .u32 0, .slice none 0 0, .int .u64 0, .slice none 0 0, .slice none 0 0, .slice none 0 0], stB (P := Tryz.prog) (o := 0) sz37 hz (by decide) [.int .u8 0, .int .u32 0, .int .u32 0, .int .u64 0, .int .u8 0, .int .u32 0, .string ⟨#[]⟩, .string ⟨#[]⟩, .int .u8 0, .int .u8 0, .bool false, .int .u8 0, .int .u16 0, .slice none 0 0, .int .u32 0, .slice none 0 0, .int .u16 0, .int .u16 0, .slice none 0 0, .slice none 0 0, .slice none 0 0, .int .u32 0, .int .u32 0, .slice none 0 0, .int .u64 0, .slice none 0 0, .slice none 0 0, .slice none 0 0] rfl rfl, ldP (P := Tryz.prog) sh37 hz rfl [.int .u8 0, .int .u32 0, .int .u32 0, .int .u64 0, .int .u8 0, .int .u32 0, .string ⟨#[]⟩, .string ⟨#[]⟩, .int .u8 0, .int .u8 0, .bool false, .int .u8 0, .int .u16 0, .slice none 0 0, .int .u32 0, .slice none 0 0, .int .u16 0, .int .u16 0, .slice none 0 0, .slice none 0 0, .slice none 0 0, .int .u32 0, .int .u32 0, .slice none 0 0, .int .u64 0, .slice none 0 0, .slice none 0 0, .slice none 0 0] rfl, kz.new FP (fun k e hk => by have : k = rr := e; omega)⟩
  have i2 : (b.length : Int) ≤ 0 := by rw [hb]; decide
  simp -implicitDefEqProofs only [go_sem, seval]
  refine loop_intro (fun q f w' => f 0 = .slice A b.length c ∧ f 2 = .pointer (some (At rr 0)) ∧ f 6 = .int .i64 0 ∧ Blk w' rr 37 #[.int .u8 0, .int .u32 0, .int .u32 0, .int .u64 0, .int .u8 0, .int .u32 0, .string ⟨#[]⟩, .string ⟨#[]⟩, .int .u8 0, .int .u8 0, .bool false, .int .u8 0, .int .u16 0, .slice none 0 0, .int .u32 0, .slice none 0 0, .int .u16 0, .int .u16 0, .slice none 0 0, .slice none 0 0, .slice none 0 0, .int .u32 0, .int .u32 0, .slice none 0 0, .int .u64 0, .slice none 0 0, .slice none 0 0, .slice none 0 0] ∧ Keep w2 w') 0
    ⟨by simp -implicitDefEqProofs only [go_sem, seval], by simp -implicitDefEqProofs only [go_sem, seval], by simp -implicitDefEqProofs only [go_sem, seval], hr2, Fx.refl _ _⟩ ?_
  rintro q f w3 ⟨g0, g2, g6, hr3, k3⟩
  have K3 := K2.tr k3
  have hnx : (nextF b).2.1 = 40 := by rw [hb]; rfl
  obtain ⟨wq, Sq, Lq, Kq⟩ := zfin hr3 K3
  rw [hnx]
  have j3 : (0 : Int) < 3 := by decide
  simp -implicitDefEqProofs only [go_sem, seval, g0, g2, g6, i2, j3, Sq, Lq]
  exact ⟨⟨[.int .u8 0, .int .u32 0, .int .u32 0, .int .u64 0, .int .u8 0, .int .u32 0, .string ⟨#[]⟩, .string ⟨#[]⟩, .int .u8 0, .int .u8 0, .bool false, .int .u8 0, .int .u16 0, .slice none 0 0, .int .u32 0, .slice none 0 0, .int .u16 0, .int .u16 0, .slice none 0 0, .slice none 0 0, .slice none 0 0, .int .u32 0, .int .u32 0, .slice none 0 0, .int .u64 0, .slice none 0 0, .slice none 0 0, .slice none 0 0], _, rfl, rfl, rfl, fun h => absurd h (by decide)⟩, Kq⟩
theorem first_calls {w : World} {A : Option Addr} {c : Nat} {b : List Int} (hrd : RdI w .u8 A b) (hc : b.length ≤ c) (hcm : c ≤ maxLen) (hbs : Bs b) (hlen : b.length ≤ 1000000000) :
    callK Tryz.prog 14 #[.slice A b.length c] w fun v w' => (∃ cs n, v = .tuple #[.agg (List.toArray cs), .int .i64 n, .int .i64 (nextF b).2.1] ∧ cs.length = 28 ∧ allOne cs = true ∧ ((nextF b).2.1 = 0 → ∃ k : Nat, n = k ∧ 0 < k ∧ k ≤ b.length ∧ (nextF b).2.2.1 = b.drop k)) ∧ Keep w w' := by
  by_cases hb : b = []
  · exact first_nil hb
  · have hp : 0 < b.length := List.length_pos_iff.2 hb
    obtain ⟨ad, rfl, hcl⟩ := hrd 0 _ (List.getElem?_eq_getElem hp)
    rw [add_zero'] at hcl
    have hs : ad.spot = none := by
      unfold World.cell? at hcl
      split at hcl
      · cases hq : ad.spot with
        | none => rfl
        | some y => rw [hq] at hcl; simp at hcl
      · cases hcl
    obtain ⟨g, o, sp⟩ := ad
    simp only at hs
    subst hs
    exact first_ne hrd hp hc hcm hbs hlen
end Go.Proofs.YtnlibeaainbipaaGreat.F
