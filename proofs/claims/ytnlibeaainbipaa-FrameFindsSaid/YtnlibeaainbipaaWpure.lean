/- Data as bytes, written one by one: what a writer has, when it is bad; how much it grows. Conditions: none beyond those that each names. -/
import Derived.Test.YtnlibeaainbipaaZ3
namespace Go.Proofs.Ytnlibeaainbipaa.V
open Go.RowKit

/-- What is written so far; something can't be written. -/
structure WS where
  b : List Int
  bad : Bool
def wnum (n : Nat) (s : WS) : WS := ⟨s.b ++ vput n, s.bad⟩
def wflag (b : Bool) (s : WS) : WS := wnum (if b = true then 1 else 0) s
def wint (x : Int) (s : WS) : WS := ⟨s.b ++ vput (zig x), s.bad⟩
def wbytes (l : List Int) (s : WS) : WS := if s.bad = true ∨ 4096 < l.length then ⟨s.b, true⟩ else ⟨s.b ++ vput l.length ++ l, false⟩
def wtext (t : ByteArray) (s : WS) : WS := wbytes (nums t) s
def wlist {α : Type} (one : α → WS → WS) (l : List α) (s : WS) : WS := if s.bad = true ∨ 128 < l.length then ⟨s.b, true⟩ else l.foldl (fun s x => one x s) ⟨s.b ++ vput l.length, false⟩
def wvec (l : List Int) (s : WS) : WS := wlist wint l s
def wtexts (l : List ByteArray) (s : WS) : WS := wlist wtext l s
def witem (x : MItem) (s : WS) : WS := wtexts x.tags (wvec x.vec (wnum x.id.toNat s))
def wor (b : Bool) (s : WS) : WS := ⟨s.b, s.bad || b⟩
def wchange (x : MChange) (s : WS) : WS :=
  if x.gone = true then wor (decide (0 < x.item.vec.length) || decide (0 < x.item.tags.length)) (wnum x.item.id.toNat (wflag true s)) else witem x.item (wflag false s)
def whit (x : MHit) (s : WS) : WS := wnum x.id.toNat (wint x.dist s)
def wchanges (l : List MChange) (s : WS) : WS := wlist wchange l s

/-- Data that is in its kind's range is written as the codec says; at most B bytes. -/
structure Wr {α : Type} (c : Codec α) (R : α → Prop) (one : α → WS → WS) (B : Nat) : Prop where
  bad : ∀ x s, R x → ((one x s).bad = false ↔ s.bad = false ∧ c.ok x)
  b : ∀ x s, R x → (one x s).bad = false → (one x s).b = s.b ++ c.wr x
  len : ∀ x s, R x → (one x s).b.length ≤ s.b.length + B
theorem wr_num {most : Int} {hm : most < 18446744073709551616} : Wr (cnum most hm) (fun x => 0 ≤ x ∧ x ≤ most) (fun x => wnum x.toNat) 10 where
  bad x s h := ⟨fun hb => ⟨hb, h⟩, fun hb => hb.1⟩
  b x s h _ := rfl
  len x s h := by
    have := vput_u64 (n := x.toNat) (by omega)
    show (s.b ++ vput x.toNat).length ≤ _
    rw [List.length_append]; omega
theorem wr_int {low high : Int} {h0 : -9223372036854775808 ≤ low} {h1 : high ≤ 9223372036854775807} : Wr (cwhole low high h0 h1) (fun x => low ≤ x ∧ x ≤ high) wint 10 where
  bad x s h := ⟨fun hb => ⟨hb, h⟩, fun hb => hb.1⟩
  b x s h _ := rfl
  len x s h := by
    have := vput_u64 (n := zig x) (zig_lt (by omega) (by omega))
    show (s.b ++ vput (zig x)).length ≤ _
    rw [List.length_append]; omega
theorem wr_flag : Wr cflag (fun _ => True) wflag 10 where
  bad x s _ := ⟨fun hb => ⟨hb, cflag_ok x⟩, fun hb => hb.1⟩
  b x s _ _ := by cases x <;> rfl
  len x s _ := by
    show (s.b ++ vput (if x = true then 1 else 0)).length ≤ _
    have := vput_u64 (n := if x = true then 1 else 0) (by split <;> decide)
    rw [List.length_append]; omega
theorem wr_bytes : Wr cbytes Bs wbytes 4106 where
  bad x s h := by
    unfold wbytes
    show _ ↔ s.bad = false ∧ x.length ≤ 4096 ∧ Bs x
    split
    · rename_i hc
      constructor
      · intro e; cases e
      · rintro ⟨e, hl, _⟩
        rcases hc with hc | hc
        · rw [e] at hc; cases hc
        · omega
    · rename_i hc
      refine ⟨fun _ => ⟨?_, by omega, h⟩, fun _ => rfl⟩
      cases hb : s.bad with
      | true => exact absurd (.inl hb) hc
      | false => rfl
  b x s h hb := by
    unfold wbytes at hb ⊢
    split
    · rename_i hc; rw [if_pos hc] at hb; cases hb
    · show _ = s.b ++ (vput x.length ++ x)
      rw [List.append_assoc]
  len x s h := by
    unfold wbytes
    split
    · simp
    · have := vput_u64 (n := x.length) (by omega)
      simp only [List.length_append]; omega
theorem wr_text : Wr ctext (fun _ => True) wtext 4106 where
  bad x s h := by
    rw [ctext_ok]
    refine (wr_bytes.bad (nums x) s (nums_bs x)).trans ?_
    show _ ∧ ((nums x).length ≤ 4096 ∧ Bs (nums x)) ↔ _
    rw [nums_len]
    exact ⟨fun h => ⟨h.1, h.2.1⟩, fun h => ⟨h.1, h.2, nums_bs x⟩⟩
  b x s h hb := wr_bytes.b (nums x) s (nums_bs x) hb
  len x s h := wr_bytes.len (nums x) s (nums_bs x)
theorem fold_wr {α : Type} {c : Codec α} {R : α → Prop} {one : α → WS → WS} {B : Nat} (h : Wr c R one B) : ∀ (l : List α) (s : WS), (∀ x ∈ l, R x) →
    ((l.foldl (fun s x => one x s) s).bad = false ↔ s.bad = false ∧ ∀ x ∈ l, c.ok x) ∧ ((l.foldl (fun s x => one x s) s).bad = false → (l.foldl (fun s x => one x s) s).b = s.b ++ l.flatMap c.wr) ∧ (l.foldl (fun s x => one x s) s).b.length ≤ s.b.length + l.length * B
  | [], s, _ => by simp
  | x :: l, s, hR => by
    obtain ⟨h1, h2, h3⟩ := fold_wr h l (one x s) (fun y hy => hR y (by simp [hy]))
    have hx := hR x (by simp)
    have g1 := h.bad x s hx
    have g3 := h.len x s hx
    simp only [List.foldl_cons]
    refine ⟨?_, fun hb => ?_, ?_⟩
    · rw [h1, g1]
      simp only [List.mem_cons, forall_eq_or_imp, and_assoc]
    · rw [h2 hb, h.b x s hx (h1.1 hb).1]
      simp
    · rw [List.length_cons, Nat.succ_mul]; omega
theorem wr_list {α : Type} {c : Codec α} {R : α → Prop} {one : α → WS → WS} {B : Nat} (h : Wr c R one B) : Wr (clist c) (fun l => ∀ x ∈ l, R x) (wlist one) (10 + 128 * B) where
  bad l s hR := by
    unfold wlist
    show _ ↔ s.bad = false ∧ l.length ≤ 128 ∧ ∀ x ∈ l, c.ok x
    split
    · rename_i hc
      constructor
      · intro e; cases e
      · rintro ⟨e, hl, _⟩
        rcases hc with hc | hc
        · rw [e] at hc; cases hc
        · omega
    · rename_i hc
      rw [(fold_wr h l _ hR).1]
      refine ⟨fun hq => ⟨?_, by omega, hq.2⟩, fun hq => ⟨rfl, hq.2.2⟩⟩
      cases hb : s.bad with
      | true => exact absurd (.inl hb) hc
      | false => rfl
  b l s hR hb := by
    unfold wlist at hb ⊢
    split
    · rename_i hc; rw [if_pos hc] at hb; cases hb
    · rename_i hc
      rw [if_neg hc] at hb
      rw [(fold_wr h l _ hR).2.1 hb]
      show _ = s.b ++ (vput l.length ++ l.flatMap c.wr)
      rw [List.append_assoc]
  len l s hR := by
    unfold wlist
    split
    · simp
    · rename_i hc
      have := (fold_wr h l ⟨s.b ++ vput l.length, false⟩ hR).2.2
      have h2 := vput_u64 (n := l.length) (by omega)
      have h3 : l.length * B ≤ 128 * B := Nat.mul_le_mul_right _ (by omega)
      simp only [List.length_append] at this
      omega
def RItem (x : MItem) : Prop := (0 ≤ x.id ∧ x.id ≤ 4294967295) ∧ ∀ n ∈ x.vec, -2147483648 ≤ n ∧ n ≤ 2147483647
def RChange (x : MChange) : Prop := RItem x.item
def RHit (x : MHit) : Prop := (-9223372036854775808 ≤ x.dist ∧ x.dist ≤ 9223372036854775807) ∧ 0 ≤ x.id ∧ x.id ≤ 4294967295
theorem wr_vec : Wr cvec (fun l => ∀ n ∈ l, -2147483648 ≤ n ∧ n ≤ 2147483647) wvec 1290 := wr_list wr_int
theorem wr_texts : Wr ctexts (fun _ => True) wtexts 525578 :=
  ⟨fun l s _ => (wr_list wr_text).bad l s (fun _ _ => trivial), fun l s _ => (wr_list wr_text).b l s (fun _ _ => trivial), fun l s _ => (wr_list wr_text).len l s (fun _ _ => trivial)⟩
theorem wr_item : Wr citem RItem witem 526878 where
  bad x s h := by
    unfold witem
    rw [wr_texts.bad _ _ trivial, wr_vec.bad _ _ h.2]
    have := (wr_num (most := 4294967295) (hm := by decide)).bad x.id s h.1
    rw [this]
    show _ ↔ _ ∧ (cu32.ok x.id ∧ cvec.ok x.vec ∧ ctexts.ok x.tags) ∧ _
    exact ⟨fun hq => ⟨hq.1.1.1, ⟨hq.1.1.2, hq.1.2, hq.2⟩, rfl⟩, fun hq => ⟨⟨⟨hq.1, hq.2.1.1⟩, hq.2.1.2.1⟩, hq.2.1.2.2⟩⟩
  b x s h hb := by
    unfold witem at hb ⊢
    have h1 := (wr_texts.bad _ _ trivial).1 hb
    rw [wr_texts.b _ _ trivial hb, wr_vec.b _ _ h.2 h1.1]
    show s.b ++ vput x.id.toNat ++ cvec.wr x.vec ++ ctexts.wr x.tags = s.b ++ (vput x.id.toNat ++ (cvec.wr x.vec ++ ctexts.wr x.tags))
    simp only [List.append_assoc]
  len x s h := by
    unfold witem
    have h1 := wr_texts.len x.tags (wvec x.vec (wnum x.id.toNat s)) trivial
    have h2 := wr_vec.len x.vec (wnum x.id.toNat s) h.2
    have h3 := (wr_num (most := 4294967295) (hm := by decide)).len x.id s h.1
    omega
theorem wr_change : Wr cchange RChange wchange 526888 where
  bad x s h := by
    obtain ⟨g, i⟩ := x
    unfold wchange
    cases g with
    | true =>
      rw [if_pos rfl]
      have h1 := (wr_num (most := 4294967295) (hm := by decide)).bad i.id (wflag true s) h.1
      have h2 := wr_flag.bad true s trivial
      show (_ || _) = false ↔ s.bad = false ∧ (cflag.ok true ∧ cgone.ok i) ∧ _
      show _ ↔ s.bad = false ∧ (cflag.ok true ∧ cu32.ok i.id ∧ (⟨i.id, [], []⟩ : MItem) = i) ∧ _
      rw [Bool.or_eq_false_iff]
      rw [h1, h2]
      obtain ⟨id, vec, tags⟩ := i
      simp only [Bool.or_eq_false_iff, decide_eq_false_iff_not, Nat.not_lt, Nat.le_zero_eq, List.length_eq_zero_iff, MItem.mk.injEq, true_and]
      exact ⟨fun hq => ⟨hq.1.1.1, ⟨hq.1.1.2, hq.1.2, hq.2.1.symm, hq.2.2.symm⟩, trivial⟩, fun hq => ⟨⟨⟨hq.1, hq.2.1.1⟩, hq.2.1.2.1⟩, hq.2.1.2.2.1.symm, hq.2.1.2.2.2.symm⟩⟩
    | false =>
      rw [if_neg (by simp)]
      rw [wr_item.bad i _ h, wr_flag.bad false s trivial]
      show _ ↔ s.bad = false ∧ (cflag.ok false ∧ citem.ok i) ∧ _
      exact ⟨fun hq => ⟨hq.1.1, ⟨hq.1.2, hq.2⟩, rfl⟩, fun hq => ⟨⟨hq.1, hq.2.1.1⟩, hq.2.1.2⟩⟩
  b x s h hb := by
    obtain ⟨g, i⟩ := x
    unfold wchange at hb ⊢
    cases g with
    | true =>
      rw [if_pos rfl] at hb ⊢
      show s.b ++ vput 1 ++ vput i.id.toNat = s.b ++ (vput 1 ++ vput i.id.toNat)
      rw [List.append_assoc]
    | false =>
      rw [if_neg (by simp)] at hb ⊢
      rw [wr_item.b i _ h hb]
      show s.b ++ vput 0 ++ citem.wr i = s.b ++ (vput 0 ++ citem.wr i)
      rw [List.append_assoc]
  len x s h := by
    obtain ⟨g, i⟩ := x
    unfold wchange
    cases g with
    | true =>
      rw [if_pos rfl]
      have h1 := (wr_num (most := 4294967295) (hm := by decide)).len i.id (wflag true s) h.1
      have h2 := wr_flag.len true s trivial
      simp only [wor]
      omega
    | false =>
      rw [if_neg (by simp)]
      have h1 := wr_item.len i (wflag false s) h
      have h2 := wr_flag.len false s trivial
      simp only
      omega
theorem wr_hit : Wr chit RHit whit 20 where
  bad x s h := by
    unfold whit
    have h1 := (wr_num (most := 4294967295) (hm := by decide)).bad x.id (wint x.dist s) h.2
    rw [h1, (wr_int (low := -9223372036854775808) (high := 9223372036854775807) (h0 := by decide) (h1 := by decide)).bad x.dist s h.1]
    show _ ↔ s.bad = false ∧ (ci64.ok x.dist ∧ cu32.ok x.id) ∧ _
    exact ⟨fun hq => ⟨hq.1.1, ⟨hq.1.2, hq.2⟩, rfl⟩, fun hq => ⟨⟨hq.1, hq.2.1.1⟩, hq.2.1.2⟩⟩
  b x s h hb := by
    unfold whit
    show s.b ++ vput (zig x.dist) ++ vput x.id.toNat = s.b ++ (vput (zig x.dist) ++ vput x.id.toNat)
    rw [List.append_assoc]
  len x s h := by
    unfold whit
    have h1 := (wr_num (most := 4294967295) (hm := by decide)).len x.id (wint x.dist s) h.2
    have h2 := (wr_int (low := -9223372036854775808) (high := 9223372036854775807) (h0 := by decide) (h1 := by decide)).len x.dist s h.1
    omega
theorem wr_changes : Wr cchanges (fun l => ∀ x ∈ l, RChange x) wchanges 67441674 := wr_list wr_change
/-- Changes as bytes; are they to be written? -/
def putChanges (l : List MChange) : WS := wchanges l ⟨[], false⟩
end Go.Proofs.Ytnlibeaainbipaa.V
