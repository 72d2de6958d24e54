/- The law that a frame in which one byte is another one is never read, but where its length is. Conditions: those of its row. -/
import Derived.Test.YtnlibeaainbipaaGreatFfirst
import Derived.Test.YtnlibeaainbipaaGreatFburst
namespace Go.Proofs.YtnlibeaainbipaaGreat.F
open Go.RowKit Go.Proofs.YtnlibeaainbipaaGreat.M Go.Proofs.YtnlibeaainbipaaGreat.V
set_option linter.unusedSimpArgs false
set_option linter.unusedVariables false
set_option maxRecDepth 20000
theorem byte_ne {bs : List (BitVec 8)} {i : Nat} (hi : i < bs.length) {m : BitVec 8} (hm : m ≠ 0#8) : more 0#32 bs ≠ more 0#32 (bs.set i (bs[i] ^^^ m)) := by
  have at_i : ∀ j, j / 8 = i → bitAt (bs.set i (bs[i] ^^^ m)) j = (bitAt bs j ^^ m.getLsbD (j % 8)) := by
    intro j hj
    unfold bitAt
    rw [hj, List.getD_eq_getElem?_getD, List.getElem?_set_self hi, List.getD_eq_getElem?_getD, List.getElem?_eq_getElem hi]
    simp [BitVec.getLsbD_xor]
  refine sum_ne (p := 8 * i) (by simp) ?_ ?_
  · intro j hj
    by_cases h : j / 8 = i
    · omega
    · refine absurd ?_ hj
      unfold bitAt
      rw [List.getD_eq_getElem?_getD, List.getD_eq_getElem?_getD, List.getElem?_set_ne (by omega)]
  · have : ∃ k, k < 8 ∧ m.getLsbD k = true := by
      refine Classical.byContradiction fun hc => hm ?_
      apply BitVec.eq_of_getLsbD_eq
      intro k hk
      cases hb : m.getLsbD k with
      | false => simp
      | true => exact absurd ⟨k, hk, hb⟩ hc
    obtain ⟨k, hk, hb⟩ := this
    refine ⟨8 * i + k, ?_⟩
    rw [at_i _ (by omega), show (8 * i + k) % 8 = k by omega, hb]
    cases bitAt bs (8 * i + k) <;> decide
theorem crcI_set_ne {h : List Int} {i : Nat} (hi : i < h.length) {v : Int} (hv : 0 ≤ v ∧ v ≤ 255) (hx : 0 ≤ h[i] ∧ h[i] ≤ 255) (hne : v ≠ h[i]) : crcI (h.set i v) ≠ crcI h := by
  have hi' : i < (bvs h).length := by simp [bvs]; exact hi
  have hb : (bvs h)[i] = BitVec.ofNat 8 h[i].toNat := by simp [bvs]
  have hs : bvs (h.set i v) = (bvs h).set i ((bvs h)[i] ^^^ ((bvs h)[i] ^^^ BitVec.ofNat 8 v.toNat)) := by
    rw [← BitVec.xor_assoc, BitVec.xor_self, BitVec.zero_xor]
    simp [bvs, List.map_set]
  have hm : (bvs h)[i] ^^^ BitVec.ofNat 8 v.toNat ≠ 0#8 := by
    intro e
    rw [hb, BitVec.xor_eq_zero_iff] at e
    have := congrArg BitVec.toNat e
    rw [BitVec.toNat_ofNat, BitVec.toNat_ofNat] at this
    omega
  have := byte_ne hi' hm
  rw [← hs] at this
  intro e
  refine this (BitVec.eq_of_toNat_eq ?_)
  have e' : ((more 0#32 (bvs (h.set i v))).toNat : Int) = ((more 0#32 (bvs h)).toNat : Int) := e
  omega
theorem sum4_inj {s t : Int} (hs : 0 ≤ s ∧ s < 4294967296) (ht : 0 ≤ t ∧ t < 4294967296) (h : sum4 s = sum4 t) : s = t := by
  simp only [sum4, List.cons.injEq, and_true] at h
  omega
theorem next_sum {k : Int} {m : List Int} (hl : m.length ≤ 4096) {b rest : List Int} (hlen : b.length = (headF k m).length + 4) (hd : b.drop 4 = vput m.length ++ rest) (h0 : (nextF b).2.1 = 0) :
    sum4 (crcI (b.take (headF k m).length)) = b.drop (headF k m).length := by
  have hh : (headF k m).length = 4 + (vput m.length).length + m.length := by simp [headF]; omega
  have h4 : (b.drop (headF k m).length).take 4 = b.drop (headF k m).length := List.take_of_length_le (by rw [List.length_drop]; omega)
  have hv := vget_put (n := m.length) (by omega) rest
  unfold nextF at h0
  rw [hd, hv] at h0
  simp only [Int.toNat_natCast] at h0
  by_cases p40 : preN 4 0 b = 40
  · rw [if_pos p40] at h0
    exact absurd h0 (show (40 : Int) ≠ 0 by decide)
  rw [if_neg p40] at h0
  by_cases pn : preN 4 0 b ≠ 0
  · rw [if_pos pn] at h0
    exact absurd h0 pn
  rw [if_neg pn, if_neg (by decide), if_neg (by decide), if_neg (by omega), ← hh, if_neg (by omega)] at h0
  by_cases hs : sum4 (crcI (b.take (headF k m).length)) = (b.drop (headF k m).length).take 4
  · rw [h4] at hs; exact hs
  · rw [if_pos hs] at h0
    exact absurd h0 (show (73 : Int) ≠ 0 by decide)
theorem turn_pure {k : Int} (hk : 0 ≤ k ∧ k ≤ 255) {m : List Int} (hm : Bs m) (hl : m.length ≤ 4096) {i : Nat} (hi : i < (frameF k m).length) {v : Int} (hv : 0 ≤ v ∧ v ≤ 255) (hne : v ≠ (frameF k m)[i]) (h4 : i ≠ 4) (h5 : i ≠ 5) :
    (nextF ((frameF k m).set i v)).2.1 ≠ 0 := by
  have hF : frameF k m = 76 :: 68 :: 1 :: k :: (vput m.length ++ (m ++ sum4 (crcI (headF k m)))) := by simp [frameF, headF]
  have hfl : (frameF k m).length = (headF k m).length + 4 := by simp [frameF, sum4]
  have hvl : (vput m.length).length ≤ 2 := vput_le 1 m.length (by omega)
  have hH : frameF k m = headF k m ++ sum4 (crcI (headF k m)) := rfl
  have hhb := headF_bs hk.1 hk.2 hm
  have low : ∀ (b : List Int) (e : Int), preN 4 0 b = e → e ≠ 0 → (nextF b).2.1 ≠ 0 := by
    intro b e hp he
    unfold nextF
    rw [hp]
    by_cases h : e = 40
    · rw [if_pos h]; exact (show (40 : Int) ≠ 0 by decide)
    · rw [if_neg h, if_pos he]; exact he
  have c012 : i = 0 ∨ i = 1 ∨ i = 2 ∨ i = 3 ∨ 6 ≤ i := by omega
  have main : ∀ rest, ((frameF k m).set i v).drop 4 = vput m.length ++ rest → (nextF ((frameF k m).set i v)).2.1 ≠ 0 := by
    intro rest hd h0
    have hs := next_sum hl (by rw [List.length_set]; exact hfl) hd h0
    by_cases hih : i < (headF k m).length
    · have e1 : ((frameF k m).set i v).take (headF k m).length = (headF k m).set i v := by
        rw [List.take_set, hH, List.take_left]
      have e2 : ((frameF k m).set i v).drop (headF k m).length = sum4 (crcI (headF k m)) := by
        rw [List.drop_set_of_lt hih, hH, List.drop_left]
      rw [e1, e2] at hs
      have hx : (frameF k m)[i] = (headF k m)[i] := by simp only [hH, List.getElem_append_left hih]
      rw [hx] at hne
      exact crcI_set_ne hih hv (hhb _ (List.getElem_mem _)) hne (sum4_inj (crcI_range _) (crcI_range _) hs)
    · have e1 : ((frameF k m).set i v).take (headF k m).length = headF k m := by
        rw [List.take_set, hH, List.take_left, List.set_eq_of_length_le (by omega)]
      have e2 : ((frameF k m).set i v).drop (headF k m).length = (sum4 (crcI (headF k m))).set (i - (headF k m).length) v := by
        rw [List.drop_set, if_neg hih, hH, List.drop_left]
      rw [e1, e2] at hs
      have hlt : i - (headF k m).length < (sum4 (crcI (headF k m))).length := by
        have : (sum4 (crcI (headF k m))).length = 4 := rfl
        omega
      have hx : (frameF k m)[i] = (sum4 (crcI (headF k m)))[i - (headF k m).length] := by simp only [hH, List.getElem_append_right (by omega : (headF k m).length ≤ i)]
      have hg : (sum4 (crcI (headF k m)))[i - (headF k m).length]? = some v := by
        have this : (sum4 (crcI (headF k m)))[i - (headF k m).length]? = ((sum4 (crcI (headF k m))).set (i - (headF k m).length) v)[i - (headF k m).length]? := congrArg (fun l : List Int => l[i - (headF k m).length]?) hs
        rw [this, List.getElem?_set_self hlt]
      rw [List.getElem?_eq_getElem hlt] at hg
      exact hne (by rw [hx]; exact (Option.some.inj hg).symm)
  rcases c012 with rfl | rfl | rfl | rfl | h6
  · have hne' : v ≠ 76 := by simpa [hF] using hne
    refine low _ 70 ?_ (by decide)
    rw [hF]
    simp [preN, at4, hne']
  · have hne' : v ≠ 68 := by simpa [hF] using hne
    refine low _ 70 ?_ (by decide)
    rw [hF]
    simp [preN, at4, hne']
  · have hne' : v ≠ 1 := by simpa [hF] using hne
    refine low _ 71 ?_ (by decide)
    rw [hF]
    simp [preN, at4, hne']
  · exact main _ (by rw [hF]; rfl)
  · refine main ((m ++ sum4 (crcI (headF k m))).set (i - 4 - (vput m.length).length) v) ?_
    obtain ⟨j, rfl⟩ : ∃ j, i = j + 4 := ⟨i - 4, by omega⟩
    rw [hF]
    show (vput m.length ++ (m ++ sum4 (crcI (headF k m)))).set j v = _
    rw [List.set_append, if_neg (by omega)]
    congr 2
end Go.Proofs.YtnlibeaainbipaaGreat.F
