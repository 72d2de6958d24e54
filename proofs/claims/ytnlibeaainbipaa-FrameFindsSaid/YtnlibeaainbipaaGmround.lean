/- A message that is written is read back. Conditions: it is data of its kind's range. -/
import Derived.Test.YtnlibeaainbipaaGget
namespace Go.Proofs.Ytnlibeaainbipaa.V
open Go.RowKit
set_option linter.unusedSimpArgs false
set_option linter.unusedVariables false
def cu8 : Codec Int := cnum 255 (by decide)
def cu16 : Codec Int := cnum 65535 (by decide)
def cu64 : Codec Int := cnum 18446744073709551615 (by decide)
def cbit : Codec Int := cnum 1 (by decide)
def cconf : Codec MConf := cmap (cdep ctext fun _ => cdep cu8 fun _ => cdep cbit fun _ => cdep cflag fun _ => cdep cu8 fun _ => cu16) (fun x => ⟨x.1, x.2.1, x.2.2.1, x.2.2.2.1, x.2.2.2.2.1, x.2.2.2.2.2⟩) (fun x => (x.name, x.dim, x.metric, x.graph, x.links, x.width)) fun _ _ => rfl
def cfilter : Codec MFilter := cmap (cdep ctexts fun _ => cdep ctexts fun _ => ctexts) (fun x => ⟨x.1, x.2.1, x.2.2⟩) (fun x => (x.all, x.any, x.none)) fun _ _ => rfl
def RConf (x : MConf) : Prop := (0 ≤ x.dim ∧ x.dim ≤ 255) ∧ (0 ≤ x.metric ∧ x.metric ≤ 255) ∧ (0 ≤ x.links ∧ x.links ≤ 255) ∧ 0 ≤ x.width ∧ x.width ≤ 65535
theorem wr_filter : Wr cfilter (fun _ => True) wfilter 1576734 where
  bad x s _ := by
    unfold wfilter
    rw [wr_texts.bad _ _ trivial, wr_texts.bad _ _ trivial, wr_texts.bad _ _ trivial]
    show _ ↔ _ ∧ (ctexts.ok x.all ∧ ctexts.ok x.any ∧ ctexts.ok x.none) ∧ _
    exact ⟨fun hq => ⟨hq.1.1.1, ⟨hq.1.1.2, hq.1.2, hq.2⟩, rfl⟩, fun hq => ⟨⟨⟨hq.1, hq.2.1.1⟩, hq.2.1.2.1⟩, hq.2.1.2.2⟩⟩
  b x s _ hb := by
    unfold wfilter at hb ⊢
    have h1 := (wr_texts.bad _ _ trivial).1 hb
    have h2 := (wr_texts.bad _ _ trivial).1 h1.1
    rw [wr_texts.b _ _ trivial hb, wr_texts.b _ _ trivial h1.1, wr_texts.b _ _ trivial h2.1]
    show s.b ++ ctexts.wr x.all ++ ctexts.wr x.any ++ ctexts.wr x.none = s.b ++ (ctexts.wr x.all ++ (ctexts.wr x.any ++ ctexts.wr x.none))
    simp only [List.append_assoc]
  len x s _ := by
    unfold wfilter
    have h1 := wr_texts.len x.none (wtexts x.any (wtexts x.all s)) trivial
    have h2 := wr_texts.len x.any (wtexts x.all s) trivial
    have h3 := wr_texts.len x.all s trivial
    omega
theorem wr_conf : Wr cconf RConf wconf 4156 where
  bad x s h := by
    obtain ⟨h1, h2, h3, h4⟩ := h
    have e : (wconf x s).bad = (wtext x.name (wor (decide (1 < x.metric)) s)).bad := rfl
    rw [e, wr_text.bad _ _ trivial]
    show _ ↔ _ ∧ (ctext.ok x.name ∧ (0 ≤ x.dim ∧ x.dim ≤ 255) ∧ (0 ≤ x.metric ∧ x.metric ≤ 1) ∧ cflag.ok x.graph ∧ (0 ≤ x.links ∧ x.links ≤ 255) ∧ 0 ≤ x.width ∧ x.width ≤ 65535) ∧ _
    show (s.bad || decide (1 < x.metric)) = false ∧ _ ↔ _
    rw [Bool.or_eq_false_iff, decide_eq_false_iff_not]
    exact ⟨fun hq => ⟨hq.1.1, ⟨hq.2, h1, ⟨h2.1, by omega⟩, cflag_ok _, h3, h4⟩, rfl⟩, fun hq => ⟨⟨hq.1, by omega⟩, hq.2.1.1⟩⟩
  b x s h hb := by
    have hb : (wtext x.name (wor (decide (1 < x.metric)) s)).bad = false := hb
    have e := wr_text.b _ _ trivial hb
    show (wtext x.name (wor (decide (1 < x.metric)) s)).b ++ vput x.dim.toNat ++ vput x.metric.toNat ++ vput (if x.graph = true then 1 else 0) ++ vput x.links.toNat ++ vput x.width.toNat = _
    rw [e]
    show s.b ++ ctext.wr x.name ++ vput x.dim.toNat ++ vput x.metric.toNat ++ vput (if x.graph = true then 1 else 0) ++ vput x.links.toNat ++ vput x.width.toNat = s.b ++ (ctext.wr x.name ++ (vput x.dim.toNat ++ (vput x.metric.toNat ++ (cflag.wr x.graph ++ (vput x.links.toNat ++ vput x.width.toNat)))))
    have : cflag.wr x.graph = vput (if x.graph = true then 1 else 0) := by cases x.graph <;> rfl
    rw [this]
    simp only [List.append_assoc]
  len x s h := by
    obtain ⟨h1, h2, h3, h4⟩ := h
    unfold wconf
    have n0 : (wor (decide (1 < x.metric)) s).b = s.b := rfl
    generalize wor (decide (1 < x.metric)) s = s0 at *
    have n1 := wr_text.len x.name s0 trivial
    generalize wtext x.name s0 = s1 at *
    have n2 := (wr_num (most := 255) (hm := by decide)).len x.dim s1 (by omega)
    generalize wnum x.dim.toNat s1 = s2 at *
    have n3 := (wr_num (most := 255) (hm := by decide)).len x.metric s2 (by omega)
    generalize wnum x.metric.toNat s2 = s3 at *
    have n4 := wr_flag.len x.graph s3 trivial
    generalize wflag x.graph s3 = s4 at *
    have n5 := (wr_num (most := 255) (hm := by decide)).len x.links s4 (by omega)
    generalize wnum x.links.toNat s4 = s5 at *
    have n6 := (wr_num (most := 65535) (hm := by decide)).len x.width s5 (by omega)
    rw [n0] at n1
    omega
/-- A field: how it is written and read, where it stands. -/
structure FieldC where
  β : Type
  c : Codec β
  R : β → Prop
  one : β → WS → WS
  B : Nat
  W : Wr c R one B
  get : Msg → β
  set : β → Msg → Msg
  z : β
def fc (f : Int) : FieldC := if f = 114 then ⟨Int, cu32, _, fun x => wnum x.toNat, _, wr_num, fun x => x.req, fun y x => { x with req := y }, 0⟩ else if f = 99 then ⟨Int, cu32, _, fun x => wnum x.toNat, _, wr_num, fun x => x.caps, fun y x => { x with caps := y }, 0⟩ else if f = 116 then ⟨Int, cu64, _, fun x => wnum x.toNat, _, wr_num, fun x => x.token, fun y x => { x with token := y }, 0⟩ else if f = 101 then ⟨Int, cu8, _, fun x => wnum x.toNat, _, wr_num, fun x => x.code, fun y x => { x with code := y }, 0⟩ else if f = 110 then ⟨Int, cu32, _, fun x => wnum x.toNat, _, wr_num, fun x => x.n, fun y x => { x with n := y }, 0⟩ else if f = 78 then ⟨ByteArray, ctext, _, wtext, _, wr_text, fun x => x.name, fun y x => { x with name := y }, ⟨#[]⟩⟩ else if f = 67 then ⟨MConf, cconf, _, wconf, _, wr_conf, fun x => x.conf, fun y x => { x with conf := y }, zConf⟩ else if f = 76 then ⟨List MChange, cchanges, _, wchanges, _, wr_changes, fun x => x.changes, fun y x => { x with changes := y }, []⟩ else if f = 105 then ⟨Int, cu32, _, fun x => wnum x.toNat, _, wr_num, fun x => x.id, fun y x => { x with id := y }, 0⟩ else if f = 118 then ⟨List Int, cvec, _, wvec, _, wr_vec, fun x => x.vec, fun y x => { x with vec := y }, []⟩ else if f = 107 then ⟨Int, cu16, _, fun x => wnum x.toNat, _, wr_num, fun x => x.k, fun y x => { x with k := y }, 0⟩ else if f = 119 then ⟨Int, cu16, _, fun x => wnum x.toNat, _, wr_num, fun x => x.width, fun y x => { x with width := y }, 0⟩ else if f = 102 then ⟨MFilter, cfilter, _, wfilter, _, wr_filter, fun x => x.filter, fun y x => { x with filter := y }, zFilter⟩ else if f = 117 then ⟨Int, cu32, _, fun x => wnum x.toNat, _, wr_num, fun x => x.num, fun y x => { x with num := y }, 0⟩ else if f = 112 then ⟨Int, cu32, _, fun x => wnum x.toNat, _, wr_num, fun x => x.page, fun y x => { x with page := y }, 0⟩ else if f = 98 then ⟨List Int, cbytes, _, wbytes, _, wr_bytes, fun x => x.bytes, fun y x => { x with bytes := y }, []⟩ else if f = 86 then ⟨Int, cu64, _, fun x => wnum x.toNat, _, wr_num, fun x => x.version, fun y x => { x with version := y }, 0⟩ else if f = 83 then ⟨List ByteArray, ctexts, _, wtexts, _, wr_texts, fun x => x.names, fun y x => { x with names := y }, []⟩ else if f = 73 then ⟨List MItem, citems, _, witems, _, wr_items, fun x => x.items, fun y x => { x with items := y }, []⟩ else if f = 72 then ⟨List MHit, chits, _, whits, _, wr_hits, fun x => x.hits, fun y x => { x with hits := y }, []⟩ else ⟨Int, cu32, _, fun x => wnum x.toNat, _, wr_num, fun x => x.req, fun y x => { x with req := y }, 0⟩
def RMsg (x : Msg) : Prop := ∀ f ∈ letters, (fc f).R ((fc f).get x)
theorem wfield_fc {f : Int} (hf : f ∈ letters) (x : Msg) (s : WS) : wfieldP f (x, s) = ((fc f).set (fc f).z x, (fc f).one ((fc f).get x) s) := by
  rcases letters_cases hf with rfl | rfl | rfl | rfl | rfl | rfl | rfl | rfl | rfl | rfl | rfl | rfl | rfl | rfl | rfl | rfl | rfl | rfl | rfl | rfl <;> rfl
theorem rfield_fc {f : Int} (hf : f ∈ letters) (x : Msg) (s : RS) : rfieldP f (x, s) = ((fc f).set ((fc f).c.rd s).1 x, ((fc f).c.rd s).2) := by
  have e : cchanges.rd = rchanges := cchanges_rd
  rcases letters_cases hf with rfl | rfl | rfl | rfl | rfl | rfl | rfl | rfl | rfl | rfl | rfl | rfl | rfl | rfl | rfl | rfl | rfl | rfl | rfl | rfl
  all_goals first | rfl | (show ({ x with changes := (rchanges s).1 }, (rchanges s).2) = ({ x with changes := (cchanges.rd s).1 }, (cchanges.rd s).2); rw [e])
theorem get_set {f : Int} (hf : f ∈ letters) (y : (fc f).β) (x : Msg) : (fc f).get ((fc f).set y x) = y := by
  revert y
  rcases letters_cases hf with rfl | rfl | rfl | rfl | rfl | rfl | rfl | rfl | rfl | rfl | rfl | rfl | rfl | rfl | rfl | rfl | rfl | rfl | rfl | rfl <;> (intro y; rfl)
theorem get_other {f g : Int} (hf : f ∈ letters) (hg : g ∈ letters) (hne : f ≠ g) (y : (fc g).β) (x : Msg) : (fc f).get ((fc g).set y x) = (fc f).get x := by
  revert y
  rcases letters_cases hg with rfl | rfl | rfl | rfl | rfl | rfl | rfl | rfl | rfl | rfl | rfl | rfl | rfl | rfl | rfl | rfl | rfl | rfl | rfl | rfl <;> intro y <;> (rcases letters_cases hf with rfl | rfl | rfl | rfl | rfl | rfl | rfl | rfl | rfl | rfl | rfl | rfl | rfl | rfl | rfl | rfl | rfl | rfl | rfl | rfl <;> first | rfl | exact absurd rfl hne)
def clearAll (l : List Int) (x : Msg) : Msg := l.foldl (fun x f => (fc f).set (fc f).z x) x
def copyAll (l : List Int) (x m : Msg) : Msg := l.foldl (fun m f => (fc f).set ((fc f).get x) m) m
def encAll (l : List Int) (x : Msg) : List Int := l.flatMap fun f => (fc f).c.wr ((fc f).get x)
def OkAll (l : List Int) (x : Msg) : Prop := ∀ f ∈ l, (fc f).c.ok ((fc f).get x)
theorem put_all {x : Msg} (hR : RMsg x) : ∀ (l : List Int) (x' : Msg) (s : WS), (∀ f ∈ l, f ∈ letters) → l.Nodup → (∀ f ∈ l, (fc f).get x' = (fc f).get x) →
    (putFold l (x', s)).1 = clearAll l x' ∧ ((putFold l (x', s)).2.bad = false ↔ s.bad = false ∧ OkAll l x) ∧ ((putFold l (x', s)).2.bad = false → (putFold l (x', s)).2.b = s.b ++ encAll l x)
  | [], x', s, _, _, _ => ⟨rfl, ⟨fun h => ⟨h, fun f hf => by simp at hf⟩, fun h => h.1⟩, fun _ => by simp [putFold, encAll]⟩
  | f :: l, x', s, hl, hn, hg => by
    have hf := hl f (by simp)
    have hgf := hg f (by simp)
    have e : putFold (f :: l) (x', s) = putFold l ((fc f).set (fc f).z x', (fc f).one ((fc f).get x) s) := by
      show putFold l (wfieldP f (x', s)) = _
      rw [wfield_fc hf, hgf]
    rw [List.nodup_cons] at hn
    obtain ⟨h1, h2, h3⟩ := put_all hR l ((fc f).set (fc f).z x') ((fc f).one ((fc f).get x) s) (fun g h => hl g (by simp [h])) hn.2 (fun g h => by
      rw [get_other (hl g (by simp [h])) hf (fun e => hn.1 (e ▸ h))]; exact hg g (by simp [h]))
    have b1 := (fc f).W.bad ((fc f).get x) s (hR f hf)
    have b2 := (fc f).W.b ((fc f).get x) s (hR f hf)
    rw [e]
    refine ⟨h1, ?_, fun hb => ?_⟩
    · rw [h2, b1, and_assoc]
      unfold OkAll
      simp only [List.mem_cons, forall_eq_or_imp]
    · rw [h3 hb, b2 (h2.1 hb).1]
      simp [encAll]
theorem get_all {x : Msg} : ∀ (l : List Int) (m : Msg) (rest : List Int), (∀ f ∈ l, f ∈ letters) → OkAll l x → getFold l (m, ⟨encAll l x ++ rest, 0⟩) = (copyAll l x m, ⟨rest, 0⟩)
  | [], m, rest, _, _ => by simp [getFold, encAll, copyAll]
  | f :: l, m, rest, hl, hok => by
    have hf := hl f (by simp)
    show getFold l (rfieldP f (m, ⟨encAll (f :: l) x ++ rest, 0⟩)) = _
    have e : encAll (f :: l) x ++ rest = (fc f).c.wr ((fc f).get x) ++ (encAll l x ++ rest) := by simp [encAll]
    rw [rfield_fc hf, e, (fc f).c.back _ _ (hok f (by simp))]
    exact get_all l _ rest (fun g h => hl g (by simp [h])) (fun g h => hok g (by simp [h]))
theorem form_nodup {k : Int} {l : ByteArray} (h : form k = some l) : (nums l).Nodup := by
  have : decide ((nums ((form k).getD ⟨#[]⟩)).Nodup) = true := by
    rcases kinds_cases k with h' | h'
    · rcases h' with rfl | rfl | rfl | rfl | rfl | rfl | rfl | rfl | rfl | rfl | rfl | rfl | rfl | rfl | rfl | rfl | rfl | rfl | rfl | rfl | rfl | rfl | rfl | rfl <;> decide +kernel
    · have hf : form k = none := by simp only [form, h', if_false]
      rw [hf] at h; cases h
  rw [h, Option.getD_some, decide_eq_true_eq] at this
  exact this
/-- What is left is nothing: then it is all in the fields. -/
theorem copy_clear {x : Msg} {l : ByteArray} (h : form x.kind = some l) (hz : clearAll (nums l) x = zMsg (clearAll (nums l) x).kind) : copyAll (nums l) x (zMsg x.kind) = x := by
  have key : ∀ k : Int, x.kind = k → form k = some l → copyAll (nums l) x (zMsg x.kind) = x := by
    intro k hk hf
    rcases kinds_cases k with h' | h'
    · obtain ⟨a0, a1, a2, a3, a4, a5, a6, a7, a8, a9, a10, a11, a12, a13, a14, a15, a16, a17, a18, a19, a20⟩ := x
      rcases h' with rfl | rfl | rfl | rfl | rfl | rfl | rfl | rfl | rfl | rfl | rfl | rfl | rfl | rfl | rfl | rfl | rfl | rfl | rfl | rfl | rfl | rfl | rfl | rfl
      all_goals
        cases hf
        first
        | (simp only [clearAll, nums, Array.toList, List.map, List.foldl, fc, zMsg, Msg.mk.injEq] at hz
           simp_all [copyAll, nums, fc, zMsg])
    · have hf' : form k = none := by simp only [form, h', if_false]
      rw [hf'] at hf; cases hf
  exact key _ rfl h
theorem round {x : Msg} (hR : RMsg x) (h : PutOk x) : getMsg x.kind (putMsg x).2.b = (x, 0) := by
  obtain ⟨h1, h2⟩ := h
  unfold putMsg at h1 h2 ⊢
  cases hf : form x.kind with
  | none => rw [hf] at h1; cases h1
  | some l =>
    rw [hf] at h1 h2
    simp only at h1 h2 ⊢
    have hlet := (form_ok hf).2
    obtain ⟨p1, p2, p3⟩ := put_all hR (nums l) x ⟨[], false⟩ hlet (form_nodup hf) (fun _ _ => rfl)
    have hok := (p2.1 h1).2
    rw [p3 h1, List.nil_append]
    rw [p1] at h2
    have hg := get_all (x := x) (nums l) (zMsg x.kind) [] hlet hok
    rw [List.append_nil] at hg
    unfold getMsg
    rw [hf]
    simp only
    rw [hg]
    have : (rend (⟨[], 0⟩ : RS)).why = 0 := rfl
    rw [if_pos this, copy_clear hf h2]
end Go.Proofs.Ytnlibeaainbipaa.V
