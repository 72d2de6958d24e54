/- Messages as cells: their kind, and what stands at each field's place. Conditions: none beyond those that each theorem names. -/
import Derived.Test.YtnlibeaainbipaaGkind
import Derived.Test.YtnlibeaainbipaaGopen
namespace Go.Proofs.Ytnlibeaainbipaa.V
structure MConf where
  name : ByteArray
  dim : Int
  metric : Int
  graph : Bool
  links : Int
  width : Int
structure MFilter where
  all : List ByteArray
  any : List ByteArray
  none : List ByteArray
structure Msg where
  kind : Int
  req : Int
  caps : Int
  token : Int
  code : Int
  n : Int
  name : ByteArray
  conf : MConf
  changes : List MChange
  id : Int
  vec : List Int
  k : Int
  width : Int
  filter : MFilter
  num : Int
  page : Int
  bytes : List Int
  version : Int
  names : List ByteArray
  items : List MItem
  hits : List MHit
def zConf : MConf := ⟨⟨#[]⟩, 0, 0, false, 0, 0⟩
def zFilter : MFilter := ⟨[], [], []⟩
def zMsg (kind : Int) : Msg := ⟨kind, 0, 0, 0, 0, 0, ⟨#[]⟩, zConf, [], 0, [], 0, 0, zFilter, 0, 0, [], 0, [], [], []⟩
end Go.Proofs.Ytnlibeaainbipaa.V
namespace Go.Proofs.Ytnlibeaainbipaa.M
open Go.RowKit Go.Proofs.Ytnlibeaainbipaa.V
/-- A part of data: at which cell it begins. -/
structure Lens {α β : Type} (K : Kind α) (L : Kind β) (get : α → β) (set : β → α → α) (o : Nat) : Prop where
  get : ∀ {U w x cs}, K.rep U w x cs → L.rep U w (get x) ((cs.drop o).take L.sz)
  put : ∀ {U w x y cs vs}, K.rep U w x cs → L.rep U w y vs → K.rep U w (set y x) (cs.take o ++ vs ++ cs.drop (o + vs.length))
theorem Lens.fst {α β : Type} {K : Kind α} {L : Kind β} : Lens (K.pair L) K Prod.fst (fun y x => (y, x.2)) 0 where
  get := by
    rintro U w x cs ⟨c1, c2, rfl, h1, h2⟩
    rw [List.drop_zero, List.take_left' (K.len h1)]; exact h1
  put := by
    rintro U w x y cs vs ⟨c1, c2, rfl, h1, h2⟩ h
    refine ⟨vs, c2, ?_, h, h2⟩
    rw [List.take_zero, List.nil_append, Nat.zero_add, List.drop_left' (by rw [K.len h1, K.len h])]
theorem Lens.snd {α β γ : Type} {K : Kind α} {L : Kind β} {G : Kind γ} {get : β → γ} {set : γ → β → β} {o : Nat} (l : Lens L G get set o) : Lens (K.pair L) G (fun x => get x.2) (fun y x => (x.1, set y x.2)) (K.sz + o) where
  get := by
    rintro U w x cs ⟨c1, c2, rfl, h1, h2⟩
    rw [← K.len h1, List.drop_append, List.drop_of_length_le (by omega), List.nil_append, Nat.add_sub_cancel_left]
    exact l.get h2
  put := by
    rintro U w x y cs vs ⟨c1, c2, rfl, h1, h2⟩ h
    refine ⟨c1, _, ?_, h1, l.put h2 h⟩
    rw [← K.len h1]
    simp only [List.take_append, List.drop_append]
    rw [List.take_of_length_le (by omega), List.drop_of_length_le (by omega), List.nil_append]
    rw [Nat.add_sub_cancel_left, Nat.add_assoc, Nat.add_sub_cancel_left]
    simp only [List.append_assoc]
theorem Lens.last {α β : Type} {K : Kind α} {L : Kind β} : Lens (K.pair L) L Prod.snd (fun y x => (x.1, y)) K.sz where
  get := by
    rintro U w x cs ⟨c1, c2, rfl, h1, h2⟩
    rw [← K.len h1, List.drop_left, List.take_of_length_le (Nat.le_of_eq (L.len h2))]; exact h2
  put := by
    rintro U w x y cs vs ⟨c1, c2, rfl, h1, h2⟩ h
    refine ⟨c1, vs, ?_, h1, h⟩
    rw [← K.len h1, List.take_left, List.drop_of_length_le (by simp [L.len h, L.len h2]), List.append_nil]
theorem Lens.of {α β γ : Type} {K : Kind α} {L : Kind γ} {f : β → α} {get : α → γ} {set : γ → α → α} {o : Nat} {g : β → γ} {s : γ → β → β} (l : Lens K L get set o) (hg : ∀ x, get (f x) = g x) (hs : ∀ y x, f (s y x) = set y (f x)) : Lens (K.of f) L g s o where
  get := by
    rintro U w x cs h
    have := l.get h
    rw [hg] at this; exact this
  put := by
    rintro U w x y cs vs h hv
    show K.rep U w (f (s y x)) _
    rw [hs]; exact l.put h hv

def kBytesM : Kind (List Int) := Kind.list (Kind.int .u8) Nat.zero_lt_one
def kConf : Kind MConf := (Kind.str.pair ((Kind.int .u8).pair ((Kind.int .u8).pair (Kind.bool.pair ((Kind.int .u8).pair (Kind.int .u16)))))).of fun x => (x.name, x.dim, x.metric, x.graph, x.links, x.width)
def kFilter : Kind MFilter := (kTexts.pair (kTexts.pair kTexts)).of fun x => (x.all, x.any, x.none)
def kMsg : Kind Msg := ((Kind.int .u8).pair ((Kind.int .u32).pair ((Kind.int .u32).pair ((Kind.int .u64).pair ((Kind.int .u8).pair ((Kind.int .u32).pair (Kind.str.pair (kConf.pair (kChanges.pair ((Kind.int .u32).pair (kVec.pair ((Kind.int .u16).pair ((Kind.int .u16).pair
  (kFilter.pair ((Kind.int .u32).pair ((Kind.int .u32).pair (kBytesM.pair ((Kind.int .u64).pair (kTexts.pair (kItems.pair kHits)))))))))))))))))))).of
  fun x => (x.kind, x.req, x.caps, x.token, x.code, x.n, x.name, x.conf, x.changes, x.id, x.vec, x.k, x.width, x.filter, x.num, x.page, x.bytes, x.version, x.names, x.items, x.hits)

theorem lnKind : Lens kMsg (Kind.int .u8) (fun x => x.kind) (fun y x => { x with kind := y }) 0 := Lens.of (.fst) (fun _ => rfl) (fun _ _ => rfl)
theorem lnReq : Lens kMsg (Kind.int .u32) (fun x => x.req) (fun y x => { x with req := y }) 1 := Lens.of (.snd .fst) (fun _ => rfl) (fun _ _ => rfl)
theorem lnCaps : Lens kMsg (Kind.int .u32) (fun x => x.caps) (fun y x => { x with caps := y }) 2 := Lens.of (.snd (.snd .fst)) (fun _ => rfl) (fun _ _ => rfl)
theorem lnToken : Lens kMsg (Kind.int .u64) (fun x => x.token) (fun y x => { x with token := y }) 3 := Lens.of (.snd (.snd (.snd .fst))) (fun _ => rfl) (fun _ _ => rfl)
theorem lnCode : Lens kMsg (Kind.int .u8) (fun x => x.code) (fun y x => { x with code := y }) 4 := Lens.of (.snd (.snd (.snd (.snd .fst)))) (fun _ => rfl) (fun _ _ => rfl)
theorem lnN : Lens kMsg (Kind.int .u32) (fun x => x.n) (fun y x => { x with n := y }) 5 := Lens.of (.snd (.snd (.snd (.snd (.snd .fst))))) (fun _ => rfl) (fun _ _ => rfl)
theorem lnName : Lens kMsg Kind.str (fun x => x.name) (fun y x => { x with name := y }) 6 := Lens.of (.snd (.snd (.snd (.snd (.snd (.snd .fst)))))) (fun _ => rfl) (fun _ _ => rfl)
theorem lnConf : Lens kMsg kConf (fun x => x.conf) (fun y x => { x with conf := y }) 7 := Lens.of (.snd (.snd (.snd (.snd (.snd (.snd (.snd .fst))))))) (fun _ => rfl) (fun _ _ => rfl)
theorem lnChanges : Lens kMsg kChanges (fun x => x.changes) (fun y x => { x with changes := y }) 13 := Lens.of (.snd (.snd (.snd (.snd (.snd (.snd (.snd (.snd .fst)))))))) (fun _ => rfl) (fun _ _ => rfl)
theorem lnId : Lens kMsg (Kind.int .u32) (fun x => x.id) (fun y x => { x with id := y }) 14 := Lens.of (.snd (.snd (.snd (.snd (.snd (.snd (.snd (.snd (.snd .fst))))))))) (fun _ => rfl) (fun _ _ => rfl)
theorem lnVec : Lens kMsg kVec (fun x => x.vec) (fun y x => { x with vec := y }) 15 := Lens.of (.snd (.snd (.snd (.snd (.snd (.snd (.snd (.snd (.snd (.snd .fst)))))))))) (fun _ => rfl) (fun _ _ => rfl)
theorem lnK : Lens kMsg (Kind.int .u16) (fun x => x.k) (fun y x => { x with k := y }) 16 := Lens.of (.snd (.snd (.snd (.snd (.snd (.snd (.snd (.snd (.snd (.snd (.snd .fst))))))))))) (fun _ => rfl) (fun _ _ => rfl)
theorem lnWidth : Lens kMsg (Kind.int .u16) (fun x => x.width) (fun y x => { x with width := y }) 17 := Lens.of (.snd (.snd (.snd (.snd (.snd (.snd (.snd (.snd (.snd (.snd (.snd (.snd .fst)))))))))))) (fun _ => rfl) (fun _ _ => rfl)
theorem lnFilter : Lens kMsg kFilter (fun x => x.filter) (fun y x => { x with filter := y }) 18 := Lens.of (.snd (.snd (.snd (.snd (.snd (.snd (.snd (.snd (.snd (.snd (.snd (.snd (.snd .fst))))))))))))) (fun _ => rfl) (fun _ _ => rfl)
theorem lnNum : Lens kMsg (Kind.int .u32) (fun x => x.num) (fun y x => { x with num := y }) 21 := Lens.of (.snd (.snd (.snd (.snd (.snd (.snd (.snd (.snd (.snd (.snd (.snd (.snd (.snd (.snd .fst)))))))))))))) (fun _ => rfl) (fun _ _ => rfl)
theorem lnPage : Lens kMsg (Kind.int .u32) (fun x => x.page) (fun y x => { x with page := y }) 22 := Lens.of (.snd (.snd (.snd (.snd (.snd (.snd (.snd (.snd (.snd (.snd (.snd (.snd (.snd (.snd (.snd .fst))))))))))))))) (fun _ => rfl) (fun _ _ => rfl)
theorem lnBytes : Lens kMsg kBytesM (fun x => x.bytes) (fun y x => { x with bytes := y }) 23 := Lens.of (.snd (.snd (.snd (.snd (.snd (.snd (.snd (.snd (.snd (.snd (.snd (.snd (.snd (.snd (.snd (.snd .fst)))))))))))))))) (fun _ => rfl) (fun _ _ => rfl)
theorem lnVersion : Lens kMsg (Kind.int .u64) (fun x => x.version) (fun y x => { x with version := y }) 24 := Lens.of (.snd (.snd (.snd (.snd (.snd (.snd (.snd (.snd (.snd (.snd (.snd (.snd (.snd (.snd (.snd (.snd (.snd .fst))))))))))))))))) (fun _ => rfl) (fun _ _ => rfl)
theorem lnNames : Lens kMsg kTexts (fun x => x.names) (fun y x => { x with names := y }) 25 := Lens.of (.snd (.snd (.snd (.snd (.snd (.snd (.snd (.snd (.snd (.snd (.snd (.snd (.snd (.snd (.snd (.snd (.snd (.snd .fst)))))))))))))))))) (fun _ => rfl) (fun _ _ => rfl)
theorem lnItems : Lens kMsg kItems (fun x => x.items) (fun y x => { x with items := y }) 26 := Lens.of (.snd (.snd (.snd (.snd (.snd (.snd (.snd (.snd (.snd (.snd (.snd (.snd (.snd (.snd (.snd (.snd (.snd (.snd (.snd .fst))))))))))))))))))) (fun _ => rfl) (fun _ _ => rfl)
theorem lnHits : Lens kMsg kHits (fun x => x.hits) (fun y x => { x with hits := y }) 27 := Lens.of (.snd (.snd (.snd (.snd (.snd (.snd (.snd (.snd (.snd (.snd (.snd (.snd (.snd (.snd (.snd (.snd (.snd (.snd (.snd .last))))))))))))))))))) (fun _ => rfl) (fun _ _ => rfl)

theorem one_at {cs : List Value} {o : Nat} {v : Value} (h : (cs.drop o).take 1 = [v]) : cs[o]? = some v := by
  have : ((cs.drop o).take 1)[0]? = some v := by rw [h]; rfl
  rw [List.getElem?_take] at this
  simpa using this
/-- A message in a box of memory. -/
def MsgAt (t : TypeId) (U : Nat → Prop) (w : World) (g : Nat) (x : Msg) : Prop := ∃ cs, Blk w g t cs.toArray ∧ kMsg.rep U w x cs
theorem MsgAt.fx {t : TypeId} {U m : Nat → Prop} {w w' : World} {g : Nat} {x : Msg} (h : MsgAt t U w g x) (f : Fx m w w') (hg : ¬ m g) (hU : ∀ k, U k → k < w.heap.size → ¬ m k) : MsgAt t U w' g x := by
  obtain ⟨cs, hb, hr⟩ := h
  exact ⟨cs, f.blk hb hg, kMsg.ext hr fun k hk hlt => f.block k hlt (hU k hk hlt)⟩
theorem MsgAt.keep {t : TypeId} {U : Nat → Prop} {w w' : World} {g : Nat} {x : Msg} (h : MsgAt t U w g x) (f : Keep w w') : MsgAt t U w' g x := h.fx f (fun x => x) (fun _ _ _ x => x)
theorem MsgAt.lt {t : TypeId} {U : Nat → Prop} {w : World} {g : Nat} {x : Msg} (h : MsgAt t U w g x) : g < w.heap.size := by
  obtain ⟨cs, hb, _⟩ := h
  exact hb.lt
theorem setCell_one {w : World} {g t o : Nat} {cs : List Value} {v : Value} (h : Blk w g t cs.toArray) (ho : o < cs.length) : Blk (w.setCell (At g o) v) g t (cs.take o ++ [v] ++ cs.drop (o + 1)).toArray := by
  have := h.set o v
  have e : cs.toArray.setIfInBounds o v = (cs.take o ++ [v] ++ cs.drop (o + 1)).toArray := by
    apply Array.ext'
    simp [List.set_eq_take_append_cons_drop, ho]
  rw [e] at this
  exact this
/-- A field of one cell is written. -/
theorem MsgAt.set {t : TypeId} {U : Nat → Prop} {w : World} {g o : Nat} {x : Msg} {β : Type} {L : Kind β} {get : Msg → β} {put : β → Msg → Msg} (l : Lens kMsg L get put o) (h : MsgAt t U w g x) (hU : ¬ U g) {y : β} {v : Value} (hv : L.rep U w y [v]) (ho : o < 28) :
    MsgAt t U (w.setCell (At g o) v) g (put y x) := by
  obtain ⟨cs, hb, hr⟩ := h
  have hl : cs.length = 28 := kMsg.len hr
  have hr2 := l.put hr hv
  refine ⟨_, setCell_one hb (by omega), kMsg.fx hr2 (Fx.set (m := only g) _ _ _ rfl) fun k hk e => hU (e ▸ hk)⟩
theorem MsgAt.cell {t : TypeId} {U : Nat → Prop} {w : World} {g o : Nat} {x : Msg} {β : Type} {L : Kind β} {get : Msg → β} {put : β → Msg → Msg} (l : Lens kMsg L get put o) (h : MsgAt t U w g x) (h1 : L.sz = 1) :
    ∃ v, w.cell? (At g o) = some v ∧ w.frozen? (At g o) = false ∧ L.rep U w (get x) [v] := by
  obtain ⟨cs, hb, hr⟩ := h
  have := l.get hr
  rw [h1] at this
  have hl := L.len this
  rw [h1] at hl
  obtain ⟨v, hv⟩ : ∃ v, (cs.drop o).take 1 = [v] := by
    cases hq : (cs.drop o).take 1 with
    | nil => rw [hq] at hl; cases hl
    | cons v r =>
      rw [hq] at hl
      cases r with
      | nil => exact ⟨v, rfl⟩
      | cons u r => simp at hl
  rw [hv] at this
  exact ⟨v, by rw [hb.cell]; simpa using one_at hv, hb.frozen o, this⟩
end Go.Proofs.Ytnlibeaainbipaa.M
namespace Go.Proofs.Ytnlibeaainbipaa.F
open Go.RowKit Go.Proofs.Ytnlibeaainbipaa.M Go.Proofs.Ytnlibeaainbipaa.V
theorem opens_hit : Opens Try.prog kHit 107 :=
  opens_of (fun x : MHit => (x.dist, x.id)) (fun a => ⟨a.1, a.2⟩) (fun _ => rfl)
    (opens_struct (l := [(2, 0), (28, 1)]) Try.underlying107 rfl (by kernel_rfl)
      (opensF_pair (opens_int Try.underlying2) (by kernel_rfl) (opensF_last (opens_int Try.underlying28) (by kernel_rfl))))
theorem opens_items : Opens Try.prog kItems 39 := opens_list (Nat.succ_pos 2) Try.underlying39 (by kernel_rfl) opens_item
theorem opens_hits : Opens Try.prog kHits 40 := opens_list (Nat.succ_pos 1) Try.underlying40 (by kernel_rfl) opens_hit
theorem opens_bytesM : Opens Try.prog kBytesM 26 := opens_list Nat.zero_lt_one Try.underlying26 (by kernel_rfl) (opens_int Try.underlying5)
theorem opens_conf : Opens Try.prog kConf 33 :=
  opens_of (fun x : MConf => (x.name, x.dim, x.metric, x.graph, x.links, x.width)) (fun a => ⟨a.1, a.2.1, a.2.2.1, a.2.2.2.1, a.2.2.2.2.1, a.2.2.2.2.2⟩) (fun _ => rfl)
    (opens_struct (l := [(9, 0), (5, 1), (30, 2), (4, 3), (5, 4), (31, 5)]) Try.underlying33 rfl (by kernel_rfl)
      (opensF_pair (opens_str Try.underlying9) (by kernel_rfl) (opensF_pair (opens_int Try.underlying5) (by kernel_rfl) (opensF_pair (opens_int Try.underlying30) (by kernel_rfl)
        (opensF_pair (opens_bool Try.underlying4) (by kernel_rfl) (opensF_pair (opens_int Try.underlying5) (by kernel_rfl) (opensF_last (opens_int Try.underlying31) (by kernel_rfl))))))))
theorem opens_filter : Opens Try.prog kFilter 38 :=
  opens_of (fun x : MFilter => (x.all, x.any, x.none)) (fun a => ⟨a.1, a.2.1, a.2.2⟩) (fun _ => rfl)
    (opens_struct (l := [(36, 0), (36, 1), (36, 2)]) Try.underlying38 rfl (by kernel_rfl)
      (opensF_pair opens_texts (by kernel_rfl) (opensF_pair opens_texts (by kernel_rfl) (opensF_last opens_texts (by kernel_rfl)))))
theorem opens_msg : Opens Try.prog kMsg 42 :=
  opens_of (fun x : Msg => (x.kind, x.req, x.caps, x.token, x.code, x.n, x.name, x.conf, x.changes, x.id, x.vec, x.k, x.width, x.filter, x.num, x.page, x.bytes, x.version, x.names, x.items, x.hits))
    (fun (a0, a1, a2, a3, a4, a5, a6, a7, a8, a9, a10, a11, a12, a13, a14, a15, a16, a17, a18, a19, a20) => ⟨a0, a1, a2, a3, a4, a5, a6, a7, a8, a9, a10, a11, a12, a13, a14, a15, a16, a17, a18, a19, a20⟩) (fun _ => rfl)
    (opens_struct (l := [(5, 0), (28, 1), (28, 2), (29, 3), (5, 4), (28, 5), (9, 6), (33, 7), (34, 13), (28, 14), (35, 15), (31, 16), (31, 17), (38, 18), (28, 21), (28, 22), (26, 23), (29, 24), (36, 25), (39, 26), (40, 27)]) Try.underlying42 rfl (by kernel_rfl)
      (opensF_pair (opens_int Try.underlying5) (by kernel_rfl) (opensF_pair (opens_int Try.underlying28) (by kernel_rfl) (opensF_pair (opens_int Try.underlying28) (by kernel_rfl) (opensF_pair (opens_int Try.underlying29) (by kernel_rfl)
      (opensF_pair (opens_int Try.underlying5) (by kernel_rfl) (opensF_pair (opens_int Try.underlying28) (by kernel_rfl) (opensF_pair (opens_str Try.underlying9) (by kernel_rfl) (opensF_pair opens_conf (by kernel_rfl) (opensF_pair opens_changes (by kernel_rfl)
      (opensF_pair (opens_int Try.underlying28) (by kernel_rfl) (opensF_pair opens_vec (by kernel_rfl) (opensF_pair (opens_int Try.underlying31) (by kernel_rfl) (opensF_pair (opens_int Try.underlying31) (by kernel_rfl) (opensF_pair opens_filter (by kernel_rfl)
      (opensF_pair (opens_int Try.underlying28) (by kernel_rfl) (opensF_pair (opens_int Try.underlying28) (by kernel_rfl) (opensF_pair opens_bytesM (by kernel_rfl) (opensF_pair (opens_int Try.underlying29) (by kernel_rfl) (opensF_pair opens_texts (by kernel_rfl)
      (opensF_pair opens_items (by kernel_rfl) (opensF_last opens_hits (by kernel_rfl)))))))))))))))))))))))
end Go.Proofs.Ytnlibeaainbipaa.F
