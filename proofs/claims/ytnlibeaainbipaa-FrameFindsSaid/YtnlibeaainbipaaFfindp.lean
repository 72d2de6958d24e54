/- Frames one behind the other, in plain lists: each is found, and what is a part of one waits. Conditions: none. -/
import Derived.Test.YtnlibeaainbipaaFnext
import Derived.Test.YtnlibeaainbipaaFrsum
namespace Go.Proofs.Ytnlibeaainbipaa.F
open Go.RowKit Go.Proofs.Ytnlibeaainbipaa.M Go.Proofs.Ytnlibeaainbipaa.V
set_option linter.unusedSimpArgs false
set_option linter.unusedVariables false
set_option maxRecDepth 20000
theorem kind_ok {x : Msg} (h : PutOk x) : 1 ≤ x.kind ∧ x.kind ≤ 24 := by
  rcases kinds_cases x.kind with h' | h'
  · omega
  · have hf : form x.kind = none := by simp only [form, h', if_false]
    have := h.1
    unfold putMsg at this
    rw [hf] at this
    cases this
theorem frame_cons (k : Int) (m : List Int) : frameF k m = 76 :: 68 :: 1 :: k :: (vput m.length ++ (m ++ sum4 (crcI (headF k m)))) := by simp [frameF, headF]
theorem frame_len (k : Int) (m : List Int) : (frameF k m).length = 8 + (vput m.length).length + m.length := by simp [frameF, headF, sum4]; omega
theorem pre_zero {k : Int} (hk : 1 ≤ k ∧ k ≤ 24) (r : List Int) : preN 4 0 (76 :: 68 :: 1 :: k :: r) = 0 := by
  have : ¬ (k < 1 ∨ 24 < k) := by omega
  simp [preN, at4, this]
/-- A message whose frame may be. -/
structure FOk (x : Msg) : Prop where
  r : RMsg x
  p : PutOk x
  l : (putMsg x).2.b.length ≤ 4096
  b : Bs (putMsg x).2.b
def Fr (x : Msg) : List Int := frameF x.kind (putMsg x).2.b
theorem fr_len {x : Msg} (h : FOk x) : 9 ≤ (Fr x).length ∧ (Fr x).length ≤ 4114 := by
  have h1 := vput_pos (putMsg x).2.b.length
  have h2 : (vput (putMsg x).2.b.length).length ≤ 10 := vput_u64 (n := (putMsg x).2.b.length) (by have := h.l; omega)
  have h3 := h.l
  unfold Fr
  rw [frame_len]
  omega
theorem fr_bs {x : Msg} (h : FOk x) : Bs (Fr x) := (headF_bs (by have := kind_ok h.p; omega) (by have := kind_ok h.p; omega) h.b).append (sum4_bs _)
theorem next_front {x : Msg} (h : FOk x) (rest : List Int) : nextF (Fr x ++ rest) = (x, 0, rest, 0) := by
  have hround := round h.r h.p
  have hk := kind_ok h.p
  have hl := h.l
  unfold Fr
  generalize (putMsg x).2.b = m at *
  have e : frameF x.kind m ++ rest = 76 :: 68 :: 1 :: x.kind :: (vput m.length ++ (m ++ sum4 (crcI (headF x.kind m)) ++ rest)) := by rw [frame_cons]; simp
  have hH : frameF x.kind m ++ rest = headF x.kind m ++ (sum4 (crcI (headF x.kind m)) ++ rest) := by simp [frameF]
  have hhl : (headF x.kind m).length = 4 + (vput m.length).length + m.length := by simp [headF]; omega
  have hp : preN 4 0 (frameF x.kind m ++ rest) = 0 := by rw [e]; exact pre_zero hk _
  have hd : (frameF x.kind m ++ rest).drop 4 = vput m.length ++ (m ++ sum4 (crcI (headF x.kind m)) ++ rest) := by rw [e]; rfl
  have hv : vget ((frameF x.kind m ++ rest).drop 4) = ((m.length : Int), ((vput m.length).length : Int), 0) := by rw [hd]; exact vget_put (by omega) _
  have h3 : (frameF x.kind m ++ rest)[3]?.getD 0 = x.kind := by rw [e]; rfl
  have ht : (frameF x.kind m ++ rest).take (headF x.kind m).length = headF x.kind m := by rw [hH, List.take_left]
  have hdr : (frameF x.kind m ++ rest).drop (headF x.kind m).length = sum4 (crcI (headF x.kind m)) ++ rest := by rw [hH, List.drop_left]
  have h4 : (sum4 (crcI (headF x.kind m)) ++ rest).take 4 = sum4 (crcI (headF x.kind m)) := rfl
  have hb : (headF x.kind m).drop (4 + (vput m.length).length) = m := by
    have : headF x.kind m = ([76, 68, 1, x.kind] ++ vput m.length) ++ m := rfl
    rw [this, List.drop_left' (by simp; omega)]
  have hdd : (frameF x.kind m ++ rest).drop ((headF x.kind m).length + 4) = rest := by rw [← List.drop_drop, hdr]; rfl
  have hlen : ¬ (frameF x.kind m ++ rest).length < (headF x.kind m).length + 4 := by rw [hH]; simp [sum4]
  have n1 : ¬ (4096 : Int) < (m.length : Int) := by omega
  unfold nextF
  rw [hp, hv]
  simp only [Int.toNat_natCast]
  rw [← hhl, if_neg (by decide), if_neg (by decide), if_neg (by decide), if_neg (by decide), if_neg n1, if_neg hlen, ht, hdr, h4, if_neg (by simp), h3, hb, hround, if_neg (fun h => h rfl), hdd]
theorem next_part {x : Msg} (h : FOk x) {j : Nat} (hj : j < (Fr x).length) : nextF ((Fr x).take j) = moreF ((Fr x).take j) := by
  have hk := kind_ok h.p
  have hl := h.l
  unfold Fr at hj ⊢
  rw [frame_len] at hj
  generalize (putMsg x).2.b = m at *
  generalize x.kind = k at *
  rw [frame_cons]
  generalize hU : m ++ sum4 (crcI (headF k m)) = U
  have hUl : U.length = m.length + 4 := by rw [← hU]; simp [sum4]
  have short : ∀ l : List Int, preN 4 0 l = 40 → nextF l = moreF l := fun l hl => by unfold nextF; rw [if_pos hl]
  rcases j with _ | _ | _ | _ | j
  · exact short _ rfl
  · exact short _ (by simp [preN, at4])
  · exact short _ (by simp [preN, at4])
  · exact short _ (by simp [preN, at4])
  show nextF (76 :: 68 :: 1 :: k :: (vput m.length ++ U).take j) = moreF (76 :: 68 :: 1 :: k :: (vput m.length ++ U).take j)
  have hp := pre_zero hk ((vput m.length ++ U).take j)
  have hd : (76 :: 68 :: 1 :: k :: (vput m.length ++ U).take j).drop 4 = (vput m.length ++ U).take j := rfl
  unfold nextF
  rw [hp, hd, if_neg (by decide), if_neg (by decide)]
  by_cases hc : j < (vput m.length).length
  · have hv : vget ((vput m.length ++ U).take j) = (0, 0, 40) := by
      rw [List.take_append_of_le_length (by omega)]
      exact vget_cut (by omega) hc
    rw [hv, if_neg (by decide), if_pos (by decide)]
  · have hv : vget ((vput m.length ++ U).take j) = ((m.length : Int), ((vput m.length).length : Int), 0) := by
      rw [List.take_append, List.take_of_length_le (by omega)]
      exact vget_put (by omega) _
    have n1 : ¬ (4096 : Int) < (m.length : Int) := by omega
    rw [hv]
    simp only [Int.toNat_natCast]
    rw [if_neg (by decide), if_neg (by decide), if_neg n1, if_pos]
    simp only [List.length_cons, List.length_take, List.length_append]
    omega
theorem find_step {l : List Msg} (hl : ∀ x ∈ l, FOk x) {b r : List Int} (h : b ++ r = l.flatMap Fr) :
    (∃ x l' b', l = x :: l' ∧ b.length = (Fr x).length + b'.length ∧ nextF b = (x, 0, b', 0) ∧ b' ++ r = l'.flatMap Fr) ∨ (nextF b = moreF b ∧ (r = [] → b = [] ∧ l = [])) := by
  cases l with
  | nil =>
    have h : b ++ r = [] := h
    obtain ⟨rfl, rfl⟩ := List.append_eq_nil_iff.1 h
    exact .inr ⟨rfl, fun _ => ⟨rfl, rfl⟩⟩
  | cons x l' =>
    have hx := hl x (by simp)
    have e : (x :: l').flatMap Fr = Fr x ++ l'.flatMap Fr := by simp
    rw [e] at h
    by_cases hc : (Fr x).length ≤ b.length
    · obtain ⟨b', rfl⟩ : ∃ b', b = Fr x ++ b' := by
        rcases List.append_eq_append_iff.1 h with ⟨a, h1, h2⟩ | ⟨a, h1, h2⟩
        · have : a = [] := by
            have := congrArg List.length h1
            rw [List.length_append] at this
            exact List.length_eq_zero_iff.1 (by omega)
          subst this
          exact ⟨[], by rw [List.append_nil, h1, List.append_nil]⟩
        · exact ⟨a, h1⟩
      rw [List.append_assoc] at h
      exact .inl ⟨x, l', b', rfl, by simp, next_front hx b', List.append_cancel_left h⟩
    · have hb : b = (Fr x).take b.length := by
        have := congrArg (List.take b.length) h
        rw [List.take_left, List.take_append_of_le_length (by omega)] at this
        exact this
      refine .inr ⟨?_, fun hr => ?_⟩
      · rw [hb]
        exact next_part hx (by omega)
      · subst hr
        have := congrArg List.length h
        rw [List.append_nil, List.length_append] at this
        omega
end Go.Proofs.Ytnlibeaainbipaa.F
