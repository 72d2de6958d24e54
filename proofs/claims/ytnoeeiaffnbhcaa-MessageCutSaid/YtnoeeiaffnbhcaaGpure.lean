/- Data as bytes, in plain lists: what is written is read back, what is read was written so, what is cut off is refused. Conditions: none beyond those that each names. -/
import Derived.Test.YtnoeeiaffnbhcaaVbits
namespace Go.Proofs.Ytnoeeiaffnbhcaa.V
open Go.RowKit

/-! ### a reader: what is left, the first error's number -/
structure RS where
  b : List Int
  why : Int
theorem RS.eta (s : RS) : (⟨s.b, s.why⟩ : RS) = s := rfl
def rnum (most : Int) (s : RS) : Int × RS :=
  if s.why = 0 then
    if (vget s.b).2.2 = 0 then
      if most < (vget s.b).1 then (0, ⟨s.b, 62⟩) else ((vget s.b).1, ⟨s.b.drop (vget s.b).2.1.toNat, 0⟩)
    else (0, ⟨s.b, (vget s.b).2.2⟩)
  else (0, s)
def rwhole (low high : Int) (s : RS) : Int × RS :=
  if s.why = 0 then
    if (vget s.b).2.2 = 0 then
      if zag (vget s.b).1 < low ∨ high < zag (vget s.b).1 then (0, ⟨s.b, 62⟩) else (zag (vget s.b).1, ⟨s.b.drop (vget s.b).2.1.toNat, 0⟩)
    else (0, ⟨s.b, (vget s.b).2.2⟩)
  else (0, s)
def rcut (s : RS) : List Int × RS :=
  if ((rnum 4096 s).2.b.length : Int) < (rnum 4096 s).1 then ([], ⟨(rnum 4096 s).2.b, if (rnum 4096 s).2.why = 0 then 40 else (rnum 4096 s).2.why⟩)
  else ((rnum 4096 s).2.b.take (rnum 4096 s).1.toNat, ⟨(rnum 4096 s).2.b.drop (rnum 4096 s).1.toNat, (rnum 4096 s).2.why⟩)
def rmany {α : Type} (rd : RS → α × RS) : Nat → RS → List α × RS
  | 0, s => ([], s)
  | n + 1, s => if s.why = 0 then ((rd s).1 :: (rmany rd n (rd s).2).1, (rmany rd n (rd s).2).2) else ([], s)
def rlist {α : Type} (rd : RS → α × RS) (s : RS) : List α × RS := rmany rd (rnum 128 s).1.toNat (rnum 128 s).2
def rend (s : RS) : RS := if s.b ≠ [] ∧ s.why = 0 then ⟨s.b, 60⟩ else s

/-- How a kind of data is written and read. -/
structure Codec (α : Type) where
  rd : RS → α × RS
  wr : α → List Int
  ok : α → Prop
  bs : ∀ x, ok x → Bs (wr x)
  back : ∀ x rest, ok x → rd ⟨wr x ++ rest, 0⟩ = (x, ⟨rest, 0⟩)
  was : ∀ b, Bs b → (rd ⟨b, 0⟩).2.why = 0 → ok (rd ⟨b, 0⟩).1 ∧ b = wr (rd ⟨b, 0⟩).1 ++ (rd ⟨b, 0⟩).2.b
  cut : ∀ x j, ok x → j < (wr x).length → (rd ⟨(wr x).take j, 0⟩).2.why = 40
  stay : ∀ s, s.why ≠ 0 → (rd s).2 = s

theorem Codec.rest {α : Type} (c : Codec α) {b : List Int} (hb : Bs b) (h : (c.rd ⟨b, 0⟩).2.why = 0) : Bs (c.rd ⟨b, 0⟩).2.b := by
  obtain ⟨_, e⟩ := c.was b hb h
  intro x hx
  refine hb x ?_
  rw [e]
  exact List.mem_append_right _ hx
theorem Codec.zero {α : Type} (c : Codec α) (s : RS) (h : (c.rd s).2.why = 0) : s.why = 0 := by
  by_cases hs : s.why = 0
  · exact hs
  · rw [c.stay s hs] at h; exact h
theorem at_zero {s : RS} (h : s.why = 0) : s = ⟨s.b, 0⟩ := by
  cases s
  simp only at h
  subst h; rfl

def cnum (most : Int) (hm : most < 18446744073709551616) : Codec Int where
  rd := rnum most
  wr x := vput x.toNat
  ok x := 0 ≤ x ∧ x ≤ most
  bs x _ := vput_bs _
  back x rest h := by
    obtain ⟨n, rfl⟩ := Int.eq_ofNat_of_zero_le h.1
    have hn : n < 18446744073709551616 := by omega
    simp only [rnum, Int.toNat_natCast, vget_put hn rest, if_true]
    rw [if_neg (by omega)]
    simp
  was b hb h := by
    simp only [rnum, if_true] at h ⊢
    by_cases he : (vget b).2.2 = 0
    · rw [if_pos he] at h ⊢
      obtain ⟨n, hn, rest, rfl⟩ := vget_ok hb he
      rw [vget_put hn] at h ⊢
      simp only at h ⊢
      by_cases hm : most < (n : Int)
      · rw [if_pos hm] at h; simp at h
      · rw [if_neg hm]
        simp; omega
    · rw [if_neg he] at h
      exact absurd h he
  cut x j h hj := by
    obtain ⟨n, rfl⟩ := Int.eq_ofNat_of_zero_le h.1
    rw [Int.toNat_natCast] at hj ⊢
    simp [rnum, vget_cut (by omega : n < 18446744073709551616) hj]
  stay s hs := by simp [rnum, hs]

theorem zig_zag {n : Nat} : zig (zag (n : Int)) = n := by unfold zig zag; split <;> (split <;> omega)
def cwhole (low high : Int) (h0 : -9223372036854775808 ≤ low) (h1 : high ≤ 9223372036854775807) : Codec Int where
  rd := rwhole low high
  wr x := vput (zig x)
  ok x := low ≤ x ∧ x ≤ high
  bs x _ := vput_bs _
  back x rest h := by
    have hn : zig x < 18446744073709551616 := zig_lt (by omega) (by omega)
    simp only [rwhole, vget_put hn rest, if_true, zag_zig]
    rw [if_neg (by omega)]
    simp
  was b hb h := by
    simp only [rwhole, if_true] at h ⊢
    by_cases he : (vget b).2.2 = 0
    · rw [if_pos he] at h ⊢
      obtain ⟨n, hn, rest, rfl⟩ := vget_ok hb he
      rw [vget_put hn] at h ⊢
      simp only at h ⊢
      by_cases hm : zag (n : Int) < low ∨ high < zag (n : Int)
      · rw [if_pos hm] at h; simp at h
      · rw [if_neg hm]
        simp [zig_zag]; omega
    · rw [if_neg he] at h
      exact absurd h he
  cut x j h hj := by
    have hn : zig x < 18446744073709551616 := zig_lt (by omega) (by omega)
    simp [rwhole, vget_cut hn hj]
  stay s hs := by simp [rwhole, hs]

def cmap {α β : Type} (c : Codec α) (f : α → β) (g : β → α) (hgf : ∀ a, c.ok a → g (f a) = a) : Codec β where
  rd s := (f (c.rd s).1, (c.rd s).2)
  wr y := c.wr (g y)
  ok y := c.ok (g y) ∧ f (g y) = y
  bs y h := c.bs _ h.1
  back y rest h := by rw [c.back _ _ h.1, h.2]
  was b hb h := by
    obtain ⟨h1, h2⟩ := c.was b hb h
    have e := hgf _ h1
    exact ⟨⟨by rw [e]; exact h1, by rw [e]⟩, by rw [e]; exact h2⟩
  cut y j h hj := c.cut _ j h.1 hj
  stay s hs := c.stay s hs

/-- One behind the other; how the second is read hangs on the first. -/
def cdep {α β : Type} (c : Codec α) (d : α → Codec β) : Codec (α × β) where
  rd s := (((c.rd s).1, ((d (c.rd s).1).rd (c.rd s).2).1), ((d (c.rd s).1).rd (c.rd s).2).2)
  wr x := c.wr x.1 ++ (d x.1).wr x.2
  ok x := c.ok x.1 ∧ (d x.1).ok x.2
  bs x h := (c.bs _ h.1).append ((d x.1).bs _ h.2)
  back x rest h := by
    simp only [List.append_assoc]
    rw [c.back _ _ h.1]
    simp only
    rw [(d x.1).back _ _ h.2]
  was b hb h := by
    simp only at h ⊢
    have h1 := (d _).zero _ h
    have hr := c.rest hb h1
    obtain ⟨k1, k2⟩ := c.was b hb h1
    have e := at_zero h1
    rw [e] at h ⊢
    obtain ⟨l1, l2⟩ := (d (c.rd ⟨b, 0⟩).1).was _ hr h
    exact ⟨⟨k1, l1⟩, by rw [List.append_assoc, ← l2]; exact k2⟩
  cut x j h hj := by
    simp only [List.length_append] at hj ⊢
    by_cases hlt : j < (c.wr x.1).length
    · rw [List.take_append_of_le_length (by omega)]
      have := c.cut _ j h.1 hlt
      rw [(d _).stay _ (by rw [this]; decide), this]
    · rw [List.take_append, List.take_of_length_le (by omega)]
      rw [c.back _ _ h.1]
      exact (d x.1).cut _ _ h.2 (by omega)
  stay s hs := by
    have := c.stay s hs
    rw [(d _).stay _ (by rw [this]; exact hs), this]

theorem many_stay {α : Type} {rd : RS → α × RS} {s : RS} (hs : s.why ≠ 0) : ∀ n, rmany rd n s = ([], s)
  | 0 => rfl
  | n + 1 => by rw [rmany, if_neg hs]
theorem many_back {α : Type} (c : Codec α) (rest : List Int) : ∀ (l : List α), (∀ x ∈ l, c.ok x) → rmany c.rd l.length ⟨l.flatMap c.wr ++ rest, 0⟩ = (l, ⟨rest, 0⟩)
  | [], _ => rfl
  | x :: l, h => by
    simp only [List.length_cons, rmany, List.flatMap_cons, List.append_assoc, if_true]
    rw [c.back _ _ (h x (by simp))]
    simp only
    rw [many_back c rest l (fun y hy => h y (by simp [hy]))]
theorem many_was {α : Type} (c : Codec α) : ∀ (n : Nat) (b : List Int), Bs b → (rmany c.rd n ⟨b, 0⟩).2.why = 0 →
    (rmany c.rd n ⟨b, 0⟩).1.length = n ∧ (∀ x ∈ (rmany c.rd n ⟨b, 0⟩).1, c.ok x) ∧ b = (rmany c.rd n ⟨b, 0⟩).1.flatMap c.wr ++ (rmany c.rd n ⟨b, 0⟩).2.b
  | 0, b, _, _ => ⟨rfl, fun x hx => by simp [rmany] at hx, rfl⟩
  | n + 1, b, hb, h => by
    simp only [rmany, if_true] at h ⊢
    have h1 : (c.rd ⟨b, 0⟩).2.why = 0 := by
      by_cases hz : (c.rd ⟨b, 0⟩).2.why = 0
      · exact hz
      · rw [many_stay hz] at h; exact h
    obtain ⟨k1, k2⟩ := c.was b hb h1
    have hr := c.rest hb h1
    have e := at_zero h1
    rw [e] at h ⊢
    obtain ⟨l1, l2, l3⟩ := many_was c n _ hr h
    refine ⟨by simp [l1], fun x hx => ?_, ?_⟩
    · rcases List.mem_cons.1 hx with rfl | hx
      · exact k1
      · exact l2 x hx
    · rw [List.flatMap_cons, List.append_assoc, ← l3]; exact k2
theorem many_cut {α : Type} (c : Codec α) : ∀ (l : List α) (j : Nat), (∀ x ∈ l, c.ok x) → j < (l.flatMap c.wr).length → (rmany c.rd l.length ⟨(l.flatMap c.wr).take j, 0⟩).2.why = 40
  | [], j, _, h => by simp at h
  | x :: l, j, h, hj => by
    simp only [List.length_cons, rmany, List.flatMap_cons, if_true, List.length_append] at hj ⊢
    by_cases hlt : j < (c.wr x).length
    · rw [List.take_append_of_le_length (by omega)]
      have := c.cut _ j (h x (by simp)) hlt
      rw [many_stay (by rw [this]; decide), this]
    · rw [List.take_append, List.take_of_length_le (by omega)]
      rw [c.back _ _ (h x (by simp))]
      exact many_cut c l _ (fun y hy => h y (by simp [hy])) (by omega)

def clist {α : Type} (c : Codec α) : Codec (List α) where
  rd := rlist c.rd
  wr l := vput l.length ++ l.flatMap c.wr
  ok l := l.length ≤ 128 ∧ ∀ x ∈ l, c.ok x
  bs l h := (vput_bs _).append fun v hv => by
    obtain ⟨x, hx, hv⟩ := List.mem_flatMap.1 hv
    exact c.bs x (h.2 x hx) v hv
  back l rest h := by
    have := (cnum 128 (by decide)).back (l.length : Int) (l.flatMap c.wr ++ rest) ⟨by omega, by omega⟩
    simp only [cnum, Int.toNat_natCast] at this
    unfold rlist
    rw [List.append_assoc, this]
    simp only [Int.toNat_natCast]
    exact many_back c rest l h.2
  was b hb h := by
    unfold rlist at h ⊢
    have h1 : (rnum 128 ⟨b, 0⟩).2.why = 0 := by
      by_cases hz : (rnum 128 ⟨b, 0⟩).2.why = 0
      · exact hz
      · rw [many_stay hz] at h; exact h
    obtain ⟨k1, k2⟩ := (cnum 128 (by decide)).was b hb h1
    have hr := (cnum 128 (by decide)).rest hb h1
    simp only [cnum] at k1 k2 hr
    have e := at_zero h1
    rw [e] at h ⊢
    obtain ⟨l1, l2, l3⟩ := many_was c _ _ hr h
    refine ⟨⟨by rw [l1]; omega, l2⟩, ?_⟩
    rw [l1, List.append_assoc, ← l3]
    exact k2
  cut l j h hj := by
    have hok : (cnum 128 (by decide)).ok (l.length : Int) := ⟨by omega, by omega⟩
    simp only [List.length_append] at hj
    unfold rlist
    by_cases hlt : j < (vput l.length).length
    · rw [List.take_append_of_le_length (by omega)]
      have := (cnum 128 (by decide)).cut (l.length : Int) j hok (by simpa [cnum] using hlt)
      simp only [cnum, Int.toNat_natCast] at this
      rw [many_stay (by rw [this]; decide), this]
    · rw [List.take_append, List.take_of_length_le (by omega)]
      have := (cnum 128 (by decide)).back (l.length : Int) ((l.flatMap c.wr).take (j - (vput l.length).length)) hok
      simp only [cnum, Int.toNat_natCast] at this
      rw [this]
      simp only [Int.toNat_natCast]
      exact many_cut c l _ h.2 (by omega)
  stay s hs := by
    unfold rlist
    have := (cnum 128 (by decide)).stay s hs
    simp only [cnum] at this
    rw [this, many_stay hs]

def cbytes : Codec (List Int) where
  rd := rcut
  wr l := vput l.length ++ l
  ok l := l.length ≤ 4096 ∧ Bs l
  bs l h := (vput_bs _).append h.2
  back l rest h := by
    have := (cnum 4096 (by decide)).back (l.length : Int) (l ++ rest) ⟨by omega, by omega⟩
    simp only [cnum, Int.toNat_natCast] at this
    unfold rcut
    rw [List.append_assoc, this]
    simp only [Int.toNat_natCast, List.length_append]
    rw [if_neg (by omega)]
    simp
  was b hb h := by
    unfold rcut at h ⊢
    by_cases hl : ((rnum 4096 ⟨b, 0⟩).2.b.length : Int) < (rnum 4096 ⟨b, 0⟩).1
    · rw [if_pos hl] at h
      simp only at h
      split at h
      · cases h
      · rename_i hz; exact absurd h hz
    · rw [if_neg hl] at h ⊢
      simp only at h ⊢
      obtain ⟨k1, k2⟩ := (cnum 4096 (by decide)).was b hb h
      have hr := (cnum 4096 (by decide)).rest hb h
      simp only [cnum] at k1 k2 hr
      have hlen : ((rnum 4096 ⟨b, 0⟩).2.b.take (rnum 4096 ⟨b, 0⟩).1.toNat).length = (rnum 4096 ⟨b, 0⟩).1.toNat := by rw [List.length_take]; omega
      refine ⟨⟨by rw [hlen]; omega, hr.take _⟩, ?_⟩
      rw [hlen, List.append_assoc, List.take_append_drop]
      exact k2
  cut l j h hj := by
    have hok : (cnum 4096 (by decide)).ok (l.length : Int) := ⟨by omega, by omega⟩
    simp only [List.length_append] at hj
    unfold rcut
    by_cases hlt : j < (vput l.length).length
    · rw [List.take_append_of_le_length (by omega)]
      have h1 := (cnum 4096 (by decide)).cut (l.length : Int) j hok (by simpa [cnum] using hlt)
      simp only [cnum, Int.toNat_natCast] at h1
      rw [h1]
      split <;> simp
    · rw [List.take_append, List.take_of_length_le (by omega)]
      have := (cnum 4096 (by decide)).back (l.length : Int) (l.take (j - (vput l.length).length)) hok
      simp only [cnum, Int.toNat_natCast] at this
      rw [this]
      simp only [List.length_take]
      rw [if_pos (by omega)]
      rfl
  stay s hs := by
    have := (cnum 4096 (by decide)).stay s hs
    have h0 : (rnum 4096 s).1 = 0 := by simp [rnum, hs]
    simp only [cnum] at this
    unfold rcut
    rw [this, h0, if_neg (by omega)]
    rfl

/-! ### texts -/
def nums (s : ByteArray) : List Int := s.data.toList.map fun x => (x.toNat : Int)
theorem nums_len (s : ByteArray) : (nums s).length = s.size := by
  unfold nums
  rw [List.length_map, Array.length_toList]; rfl
theorem nums_bs (s : ByteArray) : Bs (nums s) := by
  intro x hx
  obtain ⟨u, _, rfl⟩ := List.mem_map.1 hx
  have := u.toNat_lt
  omega
theorem str_nums (s : ByteArray) : strOfNums (nums s) = s := by
  have : (strOfNums (nums s)).data = s.data := by
    apply Array.ext'
    rw [strOfNums_data]
    unfold nums
    rw [List.map_map]
    conv => rhs; rw [← List.map_id s.data.toList]
    apply List.map_congr_left
    intro u _
    simp
  cases s
  cases h : strOfNums _
  rw [h] at this
  cases this; rfl
theorem nums_str {l : List Int} (h : Bs l) : nums (strOfNums l) = l := by
  unfold nums
  rw [strOfNums_data, List.map_map]
  conv => rhs; rw [← List.map_id l]
  apply List.map_congr_left
  intro x hx
  obtain ⟨h0, h1⟩ := h x hx
  simp only [Function.comp, id]
  rw [UInt8.toNat_ofNat']
  omega
theorem str_inj {a b : ByteArray} (h : nums a = nums b) : a = b := by rw [← str_nums a, ← str_nums b, h]
def rtext (s : RS) : ByteArray × RS := (strOfNums (rcut s).1, (rcut s).2)
def ctext : Codec ByteArray := cmap cbytes strOfNums nums fun _ h => nums_str h.2
theorem ctext_rd : ctext.rd = rtext := rfl
theorem ctext_wr (s : ByteArray) : ctext.wr s = vput s.size ++ nums s := by show vput (nums s).length ++ _ = _; rw [nums_len]
theorem ctext_ok (s : ByteArray) : ctext.ok s ↔ s.size ≤ 4096 := by
  show ((nums s).length ≤ 4096 ∧ Bs (nums s)) ∧ strOfNums (nums s) = s ↔ _
  rw [nums_len]
  exact ⟨fun h => h.1.1, fun h => ⟨⟨h, nums_bs s⟩, str_nums s⟩⟩

/-! ### items, changes, hits -/
structure MItem where
  id : Int
  vec : List Int
  tags : List ByteArray
structure MChange where
  gone : Bool
  item : MItem
structure MHit where
  dist : Int
  id : Int
def u32m : Int := 4294967295
def cu32 : Codec Int := cnum 4294967295 (by decide)
def ci32 : Codec Int := cwhole (-2147483648) 2147483647 (by decide) (by decide)
def ci64 : Codec Int := cwhole (-9223372036854775808) 9223372036854775807 (by decide) (by decide)
def rflag (s : RS) : Bool × RS := ((rnum 1 s).1 == 1, (rnum 1 s).2)
def cflag : Codec Bool := cmap (cnum 1 (by decide)) (· == 1) (fun b => if b = true then 1 else 0) fun a h => by
  have h : 0 ≤ a ∧ a ≤ 1 := h
  by_cases e : a = 1
  · subst e; rfl
  · have : a = 0 := by omega
    subst this; rfl
theorem cflag_ok (b : Bool) : cflag.ok b := by cases b <;> exact ⟨⟨by decide, by decide⟩, rfl⟩
def rvec (s : RS) : List Int × RS := rlist (rwhole (-2147483648) 2147483647) s
def rtexts (s : RS) : List ByteArray × RS := rlist rtext s
def cvec : Codec (List Int) := clist ci32
def ctexts : Codec (List ByteArray) := clist ctext
def ritem (s : RS) : MItem × RS := (⟨(rnum 4294967295 s).1, (rvec (rnum 4294967295 s).2).1, (rtexts (rvec (rnum 4294967295 s).2).2).1⟩, (rtexts (rvec (rnum 4294967295 s).2).2).2)
def citem : Codec MItem := cmap (cdep cu32 fun _ => cdep cvec fun _ => ctexts) (fun x => ⟨x.1, x.2.1, x.2.2⟩) (fun x => (x.id, x.vec, x.tags)) fun _ _ => rfl
theorem citem_rd : citem.rd = ritem := rfl
def rchange (s : RS) : MChange × RS :=
  if (rflag s).1 = true then (⟨true, ⟨(rnum 4294967295 (rflag s).2).1, [], []⟩⟩, (rnum 4294967295 (rflag s).2).2) else (⟨false, (ritem (rflag s).2).1⟩, (ritem (rflag s).2).2)
def cgone : Codec MItem := cmap cu32 (fun i => ⟨i, [], []⟩) (fun x => x.id) fun _ _ => rfl
def cchange : Codec MChange := cmap (cdep cflag fun b => if b = true then cgone else citem) (fun x => ⟨x.1, x.2⟩) (fun x => (x.gone, x.item)) fun _ _ => rfl
theorem cchange_rd (s : RS) : cchange.rd s = rchange s := by
  show (MChange.mk (cflag.rd s).1 ((if (cflag.rd s).1 = true then cgone else citem).rd (cflag.rd s).2).1, ((if (cflag.rd s).1 = true then cgone else citem).rd (cflag.rd s).2).2) = _
  have e : cflag.rd s = rflag s := rfl
  rw [e]
  unfold rchange
  cases h : (rflag s).1 with
  | true => rfl
  | false => rfl
def rhit (s : RS) : MHit × RS := (⟨(rwhole (-9223372036854775808) 9223372036854775807 s).1, (rnum 4294967295 (rwhole (-9223372036854775808) 9223372036854775807 s).2).1⟩, (rnum 4294967295 (rwhole (-9223372036854775808) 9223372036854775807 s).2).2)
def chit : Codec MHit := cmap (cdep ci64 fun _ => cu32) (fun x => ⟨x.1, x.2⟩) (fun x => (x.dist, x.id)) fun _ _ => rfl
theorem chit_rd : chit.rd = rhit := rfl
def cchanges : Codec (List MChange) := clist cchange
def rchanges (s : RS) : List MChange × RS := rlist rchange s
theorem cchanges_rd : cchanges.rd = rchanges := by
  have : cchange.rd = rchange := funext cchange_rd
  show rlist cchange.rd = _
  rw [this]; rfl
/-- Changes that bytes are read as, an error's number. -/
def getChanges (b : List Int) : List MChange × Int := if (rend (rchanges ⟨b, 0⟩).2).why = 0 then ((rchanges ⟨b, 0⟩).1, 0) else ([], (rend (rchanges ⟨b, 0⟩).2).why)
end Go.Proofs.Ytnoeeiaffnbhcaa.V
