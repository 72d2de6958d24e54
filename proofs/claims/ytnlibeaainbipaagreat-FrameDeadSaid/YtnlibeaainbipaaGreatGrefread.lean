/- A message as the document reads it from bytes. Conditions: the bytes are within the machine's range. -/
import Derived.Test.YtnlibeaainbipaaGreatGmround
import Derived.Test.YtnlibeaainbipaaGreatGrefl
import Derived.Test.YtnlibeaainbipaaGreatGrform
import Derived.Test.YtnlibeaainbipaaGreatGsq
import Derived.Test.YtnlibeaainbipaaGreatGmload
import Derived.Test.YtnlibeaainbipaaGreatMfnq
namespace Go.Proofs.YtnlibeaainbipaaGreat.M
open Go.RowKit Go.Proofs.YtnlibeaainbipaaGreat.V
variable {P : Program}
/-- A part of the first of two. -/
theorem Lens.left {α β γ : Type} {K : Kind α} {L : Kind β} {G : Kind γ} {get : α → γ} {set : γ → α → α} {o : Nat} (l : Lens K G get set o) (hz : 0 < G.sz) : Lens (K.pair L) G (fun x => get x.1) (fun y x => (set y x.1, x.2)) o where
  get := by
    rintro U w x cs ⟨c1, c2, rfl, h1, h2⟩
    have hg := l.get h1
    have hl := G.len hg
    rw [List.length_take, List.length_drop] at hl
    rw [List.drop_append, List.take_append, List.length_drop, Nat.sub_eq_zero_of_le (by omega : G.sz ≤ c1.length - o), List.take_zero, List.append_nil]
    exact hg
  put := by
    rintro U w x y cs vs ⟨c1, c2, rfl, h1, h2⟩ h
    have hg := l.get h1
    have hl := G.len hg
    have hv := G.len h
    rw [List.length_take, List.length_drop] at hl
    refine ⟨_, c2, ?_, l.put h1 h, h2⟩
    rw [List.take_append, List.drop_append, Nat.sub_eq_zero_of_le (by omega : o ≤ c1.length), Nat.sub_eq_zero_of_le (by omega : o + vs.length ≤ c1.length), List.take_zero, List.append_nil, List.drop_zero]
    simp only [List.append_assoc]
theorem lcName : Lens kConf Kind.str (fun x => x.name) (fun y x => { x with name := y }) 0 := Lens.of (.fst) (fun _ => rfl) (fun _ _ => rfl)
def slnCName (y : ByteArray) (x : Msg) : Msg := { x with conf := { x.conf with name := y } }
theorem lnCName : Lens kMsg Kind.str (fun x => x.conf.name) slnCName 7 := Lens.of (.snd (.snd (.snd (.snd (.snd (.snd (.snd (.left lcName (by decide))))))))) (fun _ => rfl) (fun _ _ => rfl)
theorem lcDim : Lens kConf (Kind.int .u8) (fun x => x.dim) (fun y x => { x with dim := y }) 1 := Lens.of (.snd .fst) (fun _ => rfl) (fun _ _ => rfl)
def slnCDim (y : Int) (x : Msg) : Msg := { x with conf := { x.conf with dim := y } }
theorem lnCDim : Lens kMsg (Kind.int .u8) (fun x => x.conf.dim) slnCDim 8 := Lens.of (.snd (.snd (.snd (.snd (.snd (.snd (.snd (.left lcDim (by decide))))))))) (fun _ => rfl) (fun _ _ => rfl)
theorem lcMetric : Lens kConf (Kind.int .u8) (fun x => x.metric) (fun y x => { x with metric := y }) 2 := Lens.of (.snd (.snd .fst)) (fun _ => rfl) (fun _ _ => rfl)
def slnCMetric (y : Int) (x : Msg) : Msg := { x with conf := { x.conf with metric := y } }
theorem lnCMetric : Lens kMsg (Kind.int .u8) (fun x => x.conf.metric) slnCMetric 9 := Lens.of (.snd (.snd (.snd (.snd (.snd (.snd (.snd (.left lcMetric (by decide))))))))) (fun _ => rfl) (fun _ _ => rfl)
theorem lcGraph : Lens kConf Kind.bool (fun x => x.graph) (fun y x => { x with graph := y }) 3 := Lens.of (.snd (.snd (.snd .fst))) (fun _ => rfl) (fun _ _ => rfl)
def slnCGraph (y : Bool) (x : Msg) : Msg := { x with conf := { x.conf with graph := y } }
theorem lnCGraph : Lens kMsg Kind.bool (fun x => x.conf.graph) slnCGraph 10 := Lens.of (.snd (.snd (.snd (.snd (.snd (.snd (.snd (.left lcGraph (by decide))))))))) (fun _ => rfl) (fun _ _ => rfl)
theorem lcLinks : Lens kConf (Kind.int .u8) (fun x => x.links) (fun y x => { x with links := y }) 4 := Lens.of (.snd (.snd (.snd (.snd .fst)))) (fun _ => rfl) (fun _ _ => rfl)
def slnCLinks (y : Int) (x : Msg) : Msg := { x with conf := { x.conf with links := y } }
theorem lnCLinks : Lens kMsg (Kind.int .u8) (fun x => x.conf.links) slnCLinks 11 := Lens.of (.snd (.snd (.snd (.snd (.snd (.snd (.snd (.left lcLinks (by decide))))))))) (fun _ => rfl) (fun _ _ => rfl)
theorem lcWidth : Lens kConf (Kind.int .u16) (fun x => x.width) (fun y x => { x with width := y }) 5 := Lens.of (.snd (.snd (.snd (.snd .last)))) (fun _ => rfl) (fun _ _ => rfl)
def slnCWidth (y : Int) (x : Msg) : Msg := { x with conf := { x.conf with width := y } }
theorem lnCWidth : Lens kMsg (Kind.int .u16) (fun x => x.conf.width) slnCWidth 12 := Lens.of (.snd (.snd (.snd (.snd (.snd (.snd (.snd (.left lcWidth (by decide))))))))) (fun _ => rfl) (fun _ _ => rfl)
theorem lfAll : Lens kFilter kTexts (fun x => x.all) (fun y x => { x with all := y }) 0 := Lens.of (.fst) (fun _ => rfl) (fun _ _ => rfl)
def slnFAll (y : List ByteArray) (x : Msg) : Msg := { x with filter := { x.filter with all := y } }
theorem lnFAll : Lens kMsg kTexts (fun x => x.filter.all) slnFAll 18 := Lens.of (.snd (.snd (.snd (.snd (.snd (.snd (.snd (.snd (.snd (.snd (.snd (.snd (.snd (.left lfAll (by decide))))))))))))))) (fun _ => rfl) (fun _ _ => rfl)
theorem lfAny : Lens kFilter kTexts (fun x => x.any) (fun y x => { x with any := y }) 1 := Lens.of (.snd .fst) (fun _ => rfl) (fun _ _ => rfl)
def slnFAny (y : List ByteArray) (x : Msg) : Msg := { x with filter := { x.filter with any := y } }
theorem lnFAny : Lens kMsg kTexts (fun x => x.filter.any) slnFAny 19 := Lens.of (.snd (.snd (.snd (.snd (.snd (.snd (.snd (.snd (.snd (.snd (.snd (.snd (.snd (.left lfAny (by decide))))))))))))))) (fun _ => rfl) (fun _ _ => rfl)
theorem lfNone : Lens kFilter kTexts (fun x => x.none) (fun y x => { x with none := y }) 2 := Lens.of (.snd .last) (fun _ => rfl) (fun _ _ => rfl)
def slnFNone (y : List ByteArray) (x : Msg) : Msg := { x with filter := { x.filter with none := y } }
theorem lnFNone : Lens kMsg kTexts (fun x => x.filter.none) slnFNone 20 := Lens.of (.snd (.snd (.snd (.snd (.snd (.snd (.snd (.snd (.snd (.snd (.snd (.snd (.snd (.left lfNone (by decide))))))))))))))) (fun _ => rfl) (fun _ _ => rfl)
def sConf (c : MConf) (x : Msg) : Msg := { x with conf := c }
def sFilter (c : MFilter) (x : Msg) : Msg := { x with filter := c }
theorem slnCName_s (y) (c : MConf) (x : Msg) : slnCName y (sConf c x) = sConf { c with name := y } x := rfl
theorem slnCDim_s (y) (c : MConf) (x : Msg) : slnCDim y (sConf c x) = sConf { c with dim := y } x := rfl
theorem slnCMetric_s (y) (c : MConf) (x : Msg) : slnCMetric y (sConf c x) = sConf { c with metric := y } x := rfl
theorem slnCGraph_s (y) (c : MConf) (x : Msg) : slnCGraph y (sConf c x) = sConf { c with graph := y } x := rfl
theorem slnCLinks_s (y) (c : MConf) (x : Msg) : slnCLinks y (sConf c x) = sConf { c with links := y } x := rfl
theorem slnCWidth_s (y) (c : MConf) (x : Msg) : slnCWidth y (sConf c x) = sConf { c with width := y } x := rfl
theorem slnFAll_s (y) (c : MFilter) (x : Msg) : slnFAll y (sFilter c x) = sFilter { c with all := y } x := rfl
theorem slnFAny_s (y) (c : MFilter) (x : Msg) : slnFAny y (sFilter c x) = sFilter { c with any := y } x := rfl
theorem slnFNone_s (y) (c : MFilter) (x : Msg) : slnFNone y (sFilter c x) = sFilter { c with none := y } x := rfl
theorem conf_all (a : ByteArray) (b c : Int) (d : Bool) (e f : Int) (x : Msg) : slnCWidth f (slnCLinks e (slnCGraph d (slnCMetric c (slnCDim b (slnCName a x))))) = { x with conf := ⟨a, b, c, d, e, f⟩ } := by
  have h : slnCName a x = sConf ⟨a, x.conf.dim, x.conf.metric, x.conf.graph, x.conf.links, x.conf.width⟩ x := rfl
  rw [h, slnCDim_s, slnCMetric_s, slnCGraph_s, slnCLinks_s, slnCWidth_s]; rfl
theorem filter_all (a b c : List ByteArray) (x : Msg) : slnFNone c (slnFAny b (slnFAll a x)) = { x with filter := ⟨a, b, c⟩ } := by
  have h : slnFAll a x = sFilter ⟨a, x.filter.any, x.filter.none⟩ x := rfl
  rw [h, slnFAny_s, slnFNone_s]; rfl
theorem split_mid {cs : List Value} {n : Nat} {v : Value} (h : cs[n]? = some v) : cs = cs.take n ++ [v] ++ cs.drop (n + 1) := by
  obtain ⟨hn, rfl⟩ := List.getElem?_eq_some_iff.1 h
  rw [List.append_assoc, List.singleton_append, ← List.drop_eq_getElem_cons hn, List.take_append_drop]
theorem mid_at {xs ys : List Value} {v : Value} {n : Nat} (h : xs.length = n) : (xs ++ [v] ++ ys).toArray[n]? = some v := by
  subst h; simp
theorem set_mid {xs ys : List Value} {v v' : Value} {n : Nat} (h : xs.length = n) : (xs ++ [v] ++ ys).toArray.setIfInBounds n v' = (xs ++ [v'] ++ ys).toArray := by
  subst h
  apply Array.ext'
  simp
/-- A string as bytes of its own. -/
theorem cv_text {s e t : TypeId} (hT : BS P s e t) {w : World} {z : ByteArray} {k : Value → World → Prop} (hz : z.size ≤ maxLen) (hk : ∀ c w', z.size ≤ c → c ≤ maxLen → Elems (Kind.int .u8) (fun k => w.heap.size ≤ k) w' (some ⟨w.heap.size, 0, none⟩) (nums z) → Keep w w' → k (.slice (some ⟨w.heap.size, 0, none⟩) z.size c) w') : cvK P t s (.string z) w k := by
  obtain ⟨hs, he, ht⟩ := hT
  have e1 : cvK P t s (.string z) w k = runK P (convert t s (.string z)) w k := by simp [cvK, hs, ht]
  rw [e1]
  refine runK_of (Lib.run_convert_string_bytes w t s e z ht hs he) ?_
  refine hk _ _ (grownCap_ge w z.size 0 e) (grownCap_le_maxLen w z.size 0 e hz) ?_ ⟨rfl, rfl, rfl, by rw [Lib.bytesWorld_size]; omega, fun k hk _ => Lib.bytesWorld_at_old w e z k hk⟩
  refine elems_of (fun j x hx => ⟨_, rfl, ?_⟩) (fun ad e _ => by cases e; exact Nat.le_refl _) (fun x hx => u8_wf (nums_bs z x hx).1 (nums_bs z x hx).2)
  have hj : j < z.size := by rw [← nums_len]; exact (List.getElem?_eq_some_iff.1 hx).1
  have hc := Lib.bytesWorld_cell w e z j hj
  have hx' : (z.data.toList.getD j 0).toNat = x := by
    unfold nums at hx
    rw [List.getElem?_map] at hx
    cases hq : z.data.toList[j]? with
    | none => rw [hq] at hx; cases hx
    | some u => rw [hq] at hx; cases hx; simp [List.getD, hq]
  rw [hx'] at hc
  rw [at_add, Nat.zero_add]
  exact hc
end Go.Proofs.YtnlibeaainbipaaGreat.M
namespace Go.Proofs.YtnlibeaainbipaaGreat.F
open Go.RowKit Go.Proofs.YtnlibeaainbipaaGreat.M Go.Proofs.YtnlibeaainbipaaGreat.V
set_option linter.unusedSimpArgs false
set_option linter.unusedVariables false
set_option maxRecDepth 20000
theorem rnum_rest_bs {m : Int} {s : RS} (h : Bs s.b) : Bs (rnum m s).2.b := by
  unfold rnum
  repeat' split
  all_goals first | exact h | exact h.drop _
theorem rcut_bs {s : RS} (h : Bs s.b) : Bs (rcut s).1 := by
  unfold rcut
  split
  · exact fun x hx => by simp at hx
  · exact (rnum_rest_bs h).take _
set_option maxHeartbeats 1600000 in
theorem refRead_calls {w : World} {kind : Int} {A0 : Option Addr} {c : Nat} {b : List Int} (hk0 : 0 ≤ kind) (hk1 : kind ≤ 255) (hc : b.length ≤ c) (hm : c ≤ maxLen) (he : Elems (Kind.int .u8) (fun k => k < w.heap.size) w A0 b) :
    callK Tryz.prog 32 #[.int .u8 kind, .slice A0 b.length c] w fun v w' => ∃ cs, v = .tuple #[.agg (List.toArray cs), .int .i64 (getMsg kind b).2] ∧ kMsg.rep (fun k => w.heap.size ≤ k) w' (getMsg kind b).1 cs ∧ Keep w w' := by
  refine callK_of Tryz.func32 c32 r32 (by exact Nat.le_of_ble_eq_true rfl) ?_
  rw [m32]
  simp -implicitDefEqProofs only [go_sem, seval]
  have hb : Blk _ _ _ _ := Blk.new w 37 #[.int .u8 0, .int .u32 0, .int .u32 0, .int .u64 0, .int .u8 0, .int .u32 0, .string ⟨#[]⟩, .string ⟨#[]⟩, .int .u8 0, .int .u8 0, .bool false, .int .u8 0, .int .u16 0, .slice none 0 0, .int .u32 0, .slice none 0 0, .int .u16 0, .int .u16 0, .slice none 0 0, .slice none 0 0, .slice none 0 0, .int .u32 0, .int .u32 0, .slice none 0 0, .int .u64 0, .slice none 0 0, .slice none 0 0, .slice none 0 0]
  have kA : Keep w (w.alloc (.cells #[.int .u8 0, .int .u32 0, .int .u32 0, .int .u64 0, .int .u8 0, .int .u32 0, .string ⟨#[]⟩, .string ⟨#[]⟩, .int .u8 0, .int .u8 0, .bool false, .int .u8 0, .int .u16 0, .slice none 0 0, .int .u32 0, .slice none 0 0, .int .u16 0, .int .u16 0, .slice none 0 0, .slice none 0 0, .slice none 0 0, .int .u32 0, .int .u32 0, .slice none 0 0, .int .u64 0, .slice none 0 0, .slice none 0 0, .slice none 0 0] 37)) := Fx.alloc _ w _
  have s1 := size_alloc w (.cells #[.int .u8 0, .int .u32 0, .int .u32 0, .int .u64 0, .int .u8 0, .int .u32 0, .string ⟨#[]⟩, .string ⟨#[]⟩, .int .u8 0, .int .u8 0, .bool false, .int .u8 0, .int .u16 0, .slice none 0 0, .int .u32 0, .slice none 0 0, .int .u16 0, .int .u16 0, .slice none 0 0, .slice none 0 0, .slice none 0 0, .int .u32 0, .int .u32 0, .slice none 0 0, .int .u64 0, .slice none 0 0, .slice none 0 0, .slice none 0 0] 37)
  generalize w.alloc (.cells #[.int .u8 0, .int .u32 0, .int .u32 0, .int .u64 0, .int .u8 0, .int .u32 0, .string ⟨#[]⟩, .string ⟨#[]⟩, .int .u8 0, .int .u8 0, .bool false, .int .u8 0, .int .u16 0, .slice none 0 0, .int .u32 0, .slice none 0 0, .int .u16 0, .int .u16 0, .slice none 0 0, .slice none 0 0, .slice none 0 0, .int .u32 0, .int .u32 0, .slice none 0 0, .int .u64 0, .slice none 0 0, .slice none 0 0, .slice none 0 0] 37) = w1 at *
  obtain ⟨rb, hrb⟩ : ∃ rb, rb = w.heap.size := ⟨_, rfl⟩
  rw [← hrb] at hb s1 ⊢
  have fin : ∀ {wz : World} {cs : List Value} {x : Msg}, Keep w wz → Blk wz rb 37 #[.int .u8 0, .int .u32 0, .int .u32 0, .int .u64 0, .int .u8 0, .int .u32 0, .string ⟨#[]⟩, .string ⟨#[]⟩, .int .u8 0, .int .u8 0, .bool false, .int .u8 0, .int .u16 0, .slice none 0 0, .int .u32 0, .slice none 0 0, .int .u16 0, .int .u16 0, .slice none 0 0, .slice none 0 0, .slice none 0 0, .int .u32 0, .int .u32 0, .slice none 0 0, .int .u64 0, .slice none 0 0, .slice none 0 0, .slice none 0 0] → kMsg.rep (fun k => rb + 1 ≤ k) wz x cs → kMsg.rep (fun k => rb ≤ k) (putW wz rb 0 cs) x cs ∧ Keep w (putW wz rb 0 cs) := by
    intro wz cs x kz hz hr
    have f : Fx (only rb) wz (putW wz rb 0 cs) := Fx.put _ _ _ _ rfl
    exact ⟨kMsg.mono (kMsg.fx hr f (fun k hk e => by have : k = rb := e; omega)) (fun k _ hk => by omega), kz.new f (fun k e hk => by have : k = rb := e; omega)⟩
  refine (refForm_calls kind w1).mono ?_
  have hgm : getMsg kind b = match form kind with
    | none => (zMsg 0, 61)
    | some l => if (rend (getFold (nums l) (zMsg kind, ⟨b, 0⟩)).2).why = 0 then ((getFold (nums l) (zMsg kind, ⟨b, 0⟩)).1, 0) else (zMsg 0, (rend (getFold (nums l) (zMsg kind, ⟨b, 0⟩)).2).why) := rfl
  rintro v w2 (⟨hf, rfl, rfl⟩ | ⟨l, hf, A, rfl, hnames, k2⟩)
  · rw [hf] at hgm
    rw [hgm]
    have S0 := stB (P := Tryz.prog) (o := 0) sz37 hb (by decide)
    have L0 := ldP (P := Tryz.prog) sh37 hb rfl
    simp -implicitDefEqProofs only [go_sem, seval, S0, L0]
    obtain ⟨h1, h2⟩ := fin kA hb (zMsg_rep (k := 0) (by decide) (by decide))
    exact ⟨_, rfl, h1, h2⟩
  · rw [hf] at hgm
    simp only at hgm
    obtain ⟨hl7, hlet⟩ := form_ok hf
    have hnd := form_nodup hf
    have kk2 := kA.tr k2
    have s2 := k2.size
    have hrz2 := k2.blk hb (fun x => x)
    have hn2 : Elems Kind.str (fun k => k < w2.heap.size) w2 A ((nums l).map nm) := hnames.mono Nat.zero_lt_one fun k hk _ => hk
    have hbr := Blk.new w2 129 #[.slice A0 b.length c, .int .i64 0]
    have kB : Keep w2 (w2.alloc (.cells #[.slice A0 b.length c, .int .i64 0] 129)) := Fx.alloc _ _ _
    have s3 := size_alloc w2 (.cells #[.slice A0 b.length c, .int .i64 0] 129)
    have kk3 := kk2.tr kB
    have hrz3 := kB.blk hrz2 (fun x => x)
    have hn3 := hn2.keep kB
    simp -implicitDefEqProofs only [go_sem, seval]
    generalize w2.alloc (.cells #[.slice A0 b.length c, .int .i64 0] 129) = w3 at *
    obtain ⟨g, hg⟩ : ∃ g, g = w2.heap.size := ⟨_, rfl⟩
    rw [← hg] at hbr s3 hn3 ⊢
    have hR3 : RdS 129 (fun k => k < w.heap.size) w3 g ⟨b, 0⟩ := ⟨A0, c, hbr, hc, hm, he.keep kk3⟩
    have hb4 : Blk _ _ _ _ := Blk.new w3 37 #[.int .u8 0, .int .u32 0, .int .u32 0, .int .u64 0, .int .u8 0, .int .u32 0, .string ⟨#[]⟩, .string ⟨#[]⟩, .int .u8 0, .int .u8 0, .bool false, .int .u8 0, .int .u16 0, .slice none 0 0, .int .u32 0, .slice none 0 0, .int .u16 0, .int .u16 0, .slice none 0 0, .slice none 0 0, .slice none 0 0, .int .u32 0, .int .u32 0, .slice none 0 0, .int .u64 0, .slice none 0 0, .slice none 0 0, .slice none 0 0]
    have S0 := stB (P := Tryz.prog) (o := 0) sz37 hb4 (by decide)
    have hb5 : Blk _ _ _ #[.int .u8 kind, .int .u32 0, .int .u32 0, .int .u64 0, .int .u8 0, .int .u32 0, .string ⟨#[]⟩, .string ⟨#[]⟩, .int .u8 0, .int .u8 0, .bool false, .int .u8 0, .int .u16 0, .slice none 0 0, .int .u32 0, .slice none 0 0, .int .u16 0, .int .u16 0, .slice none 0 0, .slice none 0 0, .slice none 0 0, .int .u32 0, .int .u32 0, .slice none 0 0, .int .u64 0, .slice none 0 0, .slice none 0 0, .slice none 0 0] := hb4.put 0 #[.int .u8 kind, .int .u32 0, .int .u32 0, .int .u64 0, .int .u8 0, .int .u32 0, .string ⟨#[]⟩, .string ⟨#[]⟩, .int .u8 0, .int .u8 0, .bool false, .int .u8 0, .int .u16 0, .slice none 0 0, .int .u32 0, .slice none 0 0, .int .u16 0, .int .u16 0, .slice none 0 0, .slice none 0 0, .slice none 0 0, .int .u32 0, .int .u32 0, .slice none 0 0, .int .u64 0, .slice none 0 0, .slice none 0 0, .slice none 0 0].toList
    have k5 : Keep w3 (putW (w3.alloc (.cells #[.int .u8 0, .int .u32 0, .int .u32 0, .int .u64 0, .int .u8 0, .int .u32 0, .string ⟨#[]⟩, .string ⟨#[]⟩, .int .u8 0, .int .u8 0, .bool false, .int .u8 0, .int .u16 0, .slice none 0 0, .int .u32 0, .slice none 0 0, .int .u16 0, .int .u16 0, .slice none 0 0, .slice none 0 0, .slice none 0 0, .int .u32 0, .int .u32 0, .slice none 0 0, .int .u64 0, .slice none 0 0, .slice none 0 0, .slice none 0 0] 37)) w3.heap.size 0 #[.int .u8 kind, .int .u32 0, .int .u32 0, .int .u64 0, .int .u8 0, .int .u32 0, .string ⟨#[]⟩, .string ⟨#[]⟩, .int .u8 0, .int .u8 0, .bool false, .int .u8 0, .int .u16 0, .slice none 0 0, .int .u32 0, .slice none 0 0, .int .u16 0, .int .u16 0, .slice none 0 0, .slice none 0 0, .slice none 0 0, .int .u32 0, .int .u32 0, .slice none 0 0, .int .u64 0, .slice none 0 0, .slice none 0 0, .slice none 0 0].toList) := (Fx.alloc (fun _ => False) w3 _).new (Fx.put (m := only w3.heap.size) _ _ _ _ rfl) (fun k e hk => by have : k = w3.heap.size := e; omega)
    have s5 := size_put (w3.alloc (.cells #[.int .u8 0, .int .u32 0, .int .u32 0, .int .u64 0, .int .u8 0, .int .u32 0, .string ⟨#[]⟩, .string ⟨#[]⟩, .int .u8 0, .int .u8 0, .bool false, .int .u8 0, .int .u16 0, .slice none 0 0, .int .u32 0, .slice none 0 0, .int .u16 0, .int .u16 0, .slice none 0 0, .slice none 0 0, .slice none 0 0, .int .u32 0, .int .u32 0, .slice none 0 0, .int .u64 0, .slice none 0 0, .slice none 0 0, .slice none 0 0] 37)) w3.heap.size 0 #[.int .u8 kind, .int .u32 0, .int .u32 0, .int .u64 0, .int .u8 0, .int .u32 0, .string ⟨#[]⟩, .string ⟨#[]⟩, .int .u8 0, .int .u8 0, .bool false, .int .u8 0, .int .u16 0, .slice none 0 0, .int .u32 0, .slice none 0 0, .int .u16 0, .int .u16 0, .slice none 0 0, .slice none 0 0, .slice none 0 0, .int .u32 0, .int .u32 0, .slice none 0 0, .int .u64 0, .slice none 0 0, .slice none 0 0, .slice none 0 0].toList
    rw [size_alloc] at s5
    simp -implicitDefEqProofs only [go_sem, seval, S0]
    generalize putW (w3.alloc (.cells #[.int .u8 0, .int .u32 0, .int .u32 0, .int .u64 0, .int .u8 0, .int .u32 0, .string ⟨#[]⟩, .string ⟨#[]⟩, .int .u8 0, .int .u8 0, .bool false, .int .u8 0, .int .u16 0, .slice none 0 0, .int .u32 0, .slice none 0 0, .int .u16 0, .int .u16 0, .slice none 0 0, .slice none 0 0, .slice none 0 0, .int .u32 0, .int .u32 0, .slice none 0 0, .int .u64 0, .slice none 0 0, .slice none 0 0, .slice none 0 0] 37)) w3.heap.size 0 #[.int .u8 kind, .int .u32 0, .int .u32 0, .int .u64 0, .int .u8 0, .int .u32 0, .string ⟨#[]⟩, .string ⟨#[]⟩, .int .u8 0, .int .u8 0, .bool false, .int .u8 0, .int .u16 0, .slice none 0 0, .int .u32 0, .slice none 0 0, .int .u16 0, .int .u16 0, .slice none 0 0, .slice none 0 0, .slice none 0 0, .int .u32 0, .int .u32 0, .slice none 0 0, .int .u64 0, .slice none 0 0, .slice none 0 0, .slice none 0 0].toList = w5 at *
    obtain ⟨bx, hbx⟩ : ∃ bx, bx = w3.heap.size := ⟨_, rfl⟩
    rw [← hbx] at hb5 s5 ⊢
    have hrz5 := k5.blk hrz3 (fun x => x)
    have hn5 := hn3.keep k5
    have hR5 := hR3.keep k5
    have kk5 := kk3.tr k5
    have hM5 : MsgAt 37 (fun k => rb + 1 ≤ k ∧ k ≠ g ∧ k ≠ bx) w5 bx (zMsg kind) := ⟨_, hb5, zMsg_rep hk0 hk1⟩
    refine loop_intro (fun q f w' => ∃ (i : Nat) (p : Msg × RS), q = l.size - i ∧ i ≤ l.size ∧ f 4 = .pointer (some (At rb 0)) ∧ f 6 = .slice A l.size l.size ∧ f 8 = .pointer (some (At g 0)) ∧ f 9 = .pointer (some (At bx 0)) ∧ f 10 = .int .i64 i ∧ getFold ((nums l).drop i) p = getFold (nums l) (zMsg kind, ⟨b, 0⟩) ∧ Elems Kind.str (fun k => k < g) w' A ((nums l).map nm) ∧ Blk w' rb 37 #[.int .u8 0, .int .u32 0, .int .u32 0, .int .u64 0, .int .u8 0, .int .u32 0, .string ⟨#[]⟩, .string ⟨#[]⟩, .int .u8 0, .int .u8 0, .bool false, .int .u8 0, .int .u16 0, .slice none 0 0, .int .u32 0, .slice none 0 0, .int .u16 0, .int .u16 0, .slice none 0 0, .slice none 0 0, .slice none 0 0, .int .u32 0, .int .u32 0, .slice none 0 0, .int .u64 0, .slice none 0 0, .slice none 0 0, .slice none 0 0] ∧ MsgAt 37 (fun k => rb + 1 ≤ k ∧ k ≠ g ∧ k ≠ bx) w' bx p.1 ∧ RdS 129 (fun k => k < w.heap.size) w' g p.2 ∧ (73 ∈ (nums l).drop i → w'.cell? (At bx 26) = some (.slice none 0 0)) ∧ (72 ∈ (nums l).drop i → w'.cell? (At bx 27) = some (.slice none 0 0)) ∧ Keep w w') l.size
      ⟨0, (zMsg kind, ⟨b, 0⟩), rfl, by omega, by simp -implicitDefEqProofs only [go_sem, seval], by simp -implicitDefEqProofs only [go_sem, seval], by simp -implicitDefEqProofs only [go_sem, seval], by simp -implicitDefEqProofs only [go_sem, seval], by simp -implicitDefEqProofs only [go_sem, seval] <;> rfl, rfl, hn5, hrz5, hM5, hR5, fun _ => hb5.cell 26, fun _ => hb5.cell 27, kk5⟩ ?_
    rintro q f w6 ⟨i, p, rfl, hi, g4, g6, g8, g9, g10, hfold, hn6, hrz6, hM6, hR6, hz26, hz27, kk6⟩
    have hbg : ¬ only g bx := fun e => by have : bx = g := e; omega
    have hU : ¬ (fun k => k < w.heap.size) g := fun e => by have : g < w.heap.size := e; omega
    have hs6 := kk6.size
    have hM6lt := hM6.lt
    have hlt6 : ∀ k, k < w.heap.size → k < w6.heap.size := fun k hk => by omega
    have hV : ∀ k, (rb + 1 ≤ k ∧ k ≠ g ∧ k ≠ bx) → rb + 1 ≤ k ∧ k ≠ g ∧ k ≠ bx := fun k h => h
    have hVb : ¬ (rb + 1 ≤ bx ∧ bx ≠ g ∧ bx ≠ bx) := fun h => h.2.2 rfl
    have hnew : ∀ k, w6.heap.size ≤ k → rb + 1 ≤ k ∧ k ≠ g ∧ k ≠ bx := fun k hk => by omega
    have hUlo : ∀ k, k < w.heap.size → k < rb + 1 := fun k hk => by omega
    by_cases hlt : i < l.size
    · have i0 : (0 : Int) ≤ (i : Int) := by omega
      have i1 : (i : Int) < (l.size : Int) := by omega
      have en : IntKind.i64.wrap ((i : Int) + 1) = ((i + 1 : Nat) : Int) := i64_nat (by omega) (by omega)
      obtain ⟨y, hy⟩ : ∃ y, (nums l)[i]? = some y := ⟨_, List.getElem?_eq_getElem (by rw [nums_len]; exact hlt)⟩
      have hyl := hlet y (List.mem_of_getElem? hy)
      have hdr : (nums l).drop i = y :: (nums l).drop (i + 1) := by
        rw [List.drop_eq_getElem_cons (by rw [nums_len]; exact hlt)]
        rw [List.getElem?_eq_getElem (by rw [nums_len]; exact hlt)] at hy
        cases hy; rfl
      rw [hdr] at hfold hz26 hz27
      have hnn : y ∉ (nums l).drop (i + 1) := by
        have := hnd.sublist (List.drop_sublist i (nums l))
        rw [hdr] at this
        exact (List.nodup_cons.1 this).1
      obtain ⟨ad, rfl, hname⟩ := elem_str hn6 (i := i) (x := nm y) (by rw [List.getElem?_map, hy]; rfl)
      rw [Nat.mul_one] at hname
      have done : ∀ {wz : World} {f' : Fr}, Fx (fun k => k = g ∨ k = bx) w6 wz → MsgAt 37 (fun k => rb + 1 ≤ k ∧ k ≠ g ∧ k ≠ bx) wz bx (rfieldP y p).1 → RdS 129 (fun k => k < w.heap.size) wz g (rfieldP y p).2 → (y ≠ 73 → wz.cell? (At bx 26) = w6.cell? (At bx 26)) → (y ≠ 72 → wz.cell? (At bx 27) = w6.cell? (At bx 27)) →
          f' 4 = .pointer (some (At rb 0)) → f' 6 = .slice (some ad) l.size l.size → f' 8 = .pointer (some (At g 0)) → f' 9 = .pointer (some (At bx 0)) → f' 10 = .int .i64 ((i + 1 : Nat) : Int) →
          decQ (fun q f w' => ∃ (i : Nat) (p : Msg × RS), q = l.size - i ∧ i ≤ l.size ∧ f 4 = .pointer (some (At rb 0)) ∧ f 6 = .slice (some ad) l.size l.size ∧ f 8 = .pointer (some (At g 0)) ∧ f 9 = .pointer (some (At bx 0)) ∧ f 10 = .int .i64 i ∧ getFold ((nums l).drop i) p = getFold (nums l) (zMsg kind, ⟨b, 0⟩) ∧ Elems Kind.str (fun k => k < g) w' (some ad) ((nums l).map nm) ∧ Blk w' rb 37 #[.int .u8 0, .int .u32 0, .int .u32 0, .int .u64 0, .int .u8 0, .int .u32 0, .string ⟨#[]⟩, .string ⟨#[]⟩, .int .u8 0, .int .u8 0, .bool false, .int .u8 0, .int .u16 0, .slice none 0 0, .int .u32 0, .slice none 0 0, .int .u16 0, .int .u16 0, .slice none 0 0, .slice none 0 0, .slice none 0 0, .int .u32 0, .int .u32 0, .slice none 0 0, .int .u64 0, .slice none 0 0, .slice none 0 0, .slice none 0 0] ∧ MsgAt 37 (fun k => rb + 1 ≤ k ∧ k ≠ g ∧ k ≠ bx) w' bx p.1 ∧ RdS 129 (fun k => k < w.heap.size) w' g p.2 ∧ (73 ∈ (nums l).drop i → w'.cell? (At bx 26) = some (.slice none 0 0)) ∧ (72 ∈ (nums l).drop i → w'.cell? (At bx 27) = some (.slice none 0 0)) ∧ Keep w w') (l.size - i) f' wz := by
        intro wz f' fz hz hr n26 n27 h4 h6 h8 h9 h10
        refine ⟨l.size - (i + 1), by omega, i + 1, rfieldP y p, rfl, by omega, h4, h6, h8, h9, h10, hfold, hn6.fx fz (fun k hk e => by omega), fz.blk hrz6 (fun e => by omega), hz, hr, fun h => ?_, fun h => ?_, kk6.new fz (fun k e hk => by omega)⟩
        · rw [n26 (fun e => hnn (e ▸ h))]; exact hz26 (List.mem_cons_of_mem _ h)
        · rw [n27 (fun e => hnn (e ▸ h))]; exact hz27 (List.mem_cons_of_mem _ h)
      rcases letters_cases hyl with rfl|rfl|rfl|rfl|rfl|rfl|rfl|rfl|rfl|rfl|rfl|rfl|rfl|rfl|rfl|rfl|rfl|rfl|rfl|rfl
      · have hcx : w6.cell? (ad.add i) = some (.string ⟨#[114, 101, 113]⟩) := hname
        simp -implicitDefEqProofs only [go_sem, seval, g4, g6, g8, g9, g10, i0, i1, en, hcx, beq_self_eq_true]
        refine (refNum_calls (U := fun k => k < w.heap.size) 4294967295 hU hR6).mono ?_
        rintro v w7 ⟨rfl, h7, f7⟩
        have r := rnum_range 4294967295 (by decide) p.2 hR6.bs
        have e1 : IntKind.u32.wrap (rnum 4294967295 p.2).1 = (rnum 4294967295 p.2).1 := by rw [IntKind.wrap_u32]; omega
        have hM7 := hM6.fx f7 hbg (fun k hk _ e => by have := hV k hk; have : k = g := e; omega)
        obtain ⟨_, hc, hfz, _⟩ := hM7.cell lnReq rfl
        simp -implicitDefEqProofs only [go_sem, seval, g4, g6, g8, g9, g10, i0, i1, en, hc, hfz, e1]
        have fz : Fx (only bx) w7 (w7.setCell (At bx 1) (.int .u32 (rnum 4294967295 p.2).1)) := Fx.set _ _ _ rfl
        refine done ((f7.weaken fun k _ e => .inl e).tr (Fx.set _ _ _ (.inr rfl))) (hM7.set lnReq hVb ⟨rfl, wfU32 r.1 r.2⟩ (by decide)) (h7.fx fz (fun e => by have : g = bx := e; omega) (fun k hk e => by have := hUlo k hk; have : k = bx := e; omega)) (fun _ => (cell_set_ne _ _ (by decide)).trans (cell_fx hM6 f7 hbg 26)) (fun _ => (cell_set_ne _ _ (by decide)).trans (cell_fx hM6 f7 hbg 27)) ?_ ?_ ?_ ?_ ?_
        all_goals simp -implicitDefEqProofs only [go_sem, seval, g4, g6, g8, g9, g10, i0, i1, en]
      · have hcx : w6.cell? (ad.add i) = some (.string ⟨#[99, 97, 112, 115]⟩) := hname
        simp -implicitDefEqProofs only [go_sem, seval, g4, g6, g8, g9, g10, i0, i1, en, hcx, beq_self_eq_true]
        refine (refNum_calls (U := fun k => k < w.heap.size) 4294967295 hU hR6).mono ?_
        rintro v w7 ⟨rfl, h7, f7⟩
        have r := rnum_range 4294967295 (by decide) p.2 hR6.bs
        have e1 : IntKind.u32.wrap (rnum 4294967295 p.2).1 = (rnum 4294967295 p.2).1 := by rw [IntKind.wrap_u32]; omega
        have hM7 := hM6.fx f7 hbg (fun k hk _ e => by have := hV k hk; have : k = g := e; omega)
        obtain ⟨_, hc, hfz, _⟩ := hM7.cell lnCaps rfl
        simp -implicitDefEqProofs only [go_sem, seval, g4, g6, g8, g9, g10, i0, i1, en, hc, hfz, e1]
        have fz : Fx (only bx) w7 (w7.setCell (At bx 2) (.int .u32 (rnum 4294967295 p.2).1)) := Fx.set _ _ _ rfl
        refine done ((f7.weaken fun k _ e => .inl e).tr (Fx.set _ _ _ (.inr rfl))) (hM7.set lnCaps hVb ⟨rfl, wfU32 r.1 r.2⟩ (by decide)) (h7.fx fz (fun e => by have : g = bx := e; omega) (fun k hk e => by have := hUlo k hk; have : k = bx := e; omega)) (fun _ => (cell_set_ne _ _ (by decide)).trans (cell_fx hM6 f7 hbg 26)) (fun _ => (cell_set_ne _ _ (by decide)).trans (cell_fx hM6 f7 hbg 27)) ?_ ?_ ?_ ?_ ?_
        all_goals simp -implicitDefEqProofs only [go_sem, seval, g4, g6, g8, g9, g10, i0, i1, en]
      · have hcx : w6.cell? (ad.add i) = some (.string ⟨#[116, 111, 107, 101, 110]⟩) := hname
        simp -implicitDefEqProofs only [go_sem, seval, g4, g6, g8, g9, g10, i0, i1, en, hcx, beq_self_eq_true]
        refine (refNum_calls (U := fun k => k < w.heap.size) 18446744073709551615 hU hR6).mono ?_
        rintro v w7 ⟨rfl, h7, f7⟩
        have r := rnum_range 18446744073709551615 (by decide) p.2 hR6.bs
        have hM7 := hM6.fx f7 hbg (fun k hk _ e => by have := hV k hk; have : k = g := e; omega)
        obtain ⟨_, hc, hfz, _⟩ := hM7.cell lnToken rfl
        simp -implicitDefEqProofs only [go_sem, seval, g4, g6, g8, g9, g10, i0, i1, en, hc, hfz]
        have fz : Fx (only bx) w7 (w7.setCell (At bx 3) (.int .u64 (rnum 18446744073709551615 p.2).1)) := Fx.set _ _ _ rfl
        refine done ((f7.weaken fun k _ e => .inl e).tr (Fx.set _ _ _ (.inr rfl))) (hM7.set lnToken hVb ⟨rfl, wfU64 r.1 r.2⟩ (by decide)) (h7.fx fz (fun e => by have : g = bx := e; omega) (fun k hk e => by have := hUlo k hk; have : k = bx := e; omega)) (fun _ => (cell_set_ne _ _ (by decide)).trans (cell_fx hM6 f7 hbg 26)) (fun _ => (cell_set_ne _ _ (by decide)).trans (cell_fx hM6 f7 hbg 27)) ?_ ?_ ?_ ?_ ?_
        all_goals simp -implicitDefEqProofs only [go_sem, seval, g4, g6, g8, g9, g10, i0, i1, en]
      · have hcx : w6.cell? (ad.add i) = some (.string ⟨#[99, 111, 100, 101]⟩) := hname
        simp -implicitDefEqProofs only [go_sem, seval, g4, g6, g8, g9, g10, i0, i1, en, hcx, beq_self_eq_true]
        refine (refNum_calls (U := fun k => k < w.heap.size) 255 hU hR6).mono ?_
        rintro v w7 ⟨rfl, h7, f7⟩
        have r := rnum_range 255 (by decide) p.2 hR6.bs
        have e1 : IntKind.u8.wrap (rnum 255 p.2).1 = (rnum 255 p.2).1 := by rw [IntKind.wrap_u8]; omega
        have hM7 := hM6.fx f7 hbg (fun k hk _ e => by have := hV k hk; have : k = g := e; omega)
        obtain ⟨_, hc, hfz, _⟩ := hM7.cell lnCode rfl
        simp -implicitDefEqProofs only [go_sem, seval, g4, g6, g8, g9, g10, i0, i1, en, hc, hfz, e1]
        have fz : Fx (only bx) w7 (w7.setCell (At bx 4) (.int .u8 (rnum 255 p.2).1)) := Fx.set _ _ _ rfl
        refine done ((f7.weaken fun k _ e => .inl e).tr (Fx.set _ _ _ (.inr rfl))) (hM7.set lnCode hVb ⟨rfl, u8_wf r.1 r.2⟩ (by decide)) (h7.fx fz (fun e => by have : g = bx := e; omega) (fun k hk e => by have := hUlo k hk; have : k = bx := e; omega)) (fun _ => (cell_set_ne _ _ (by decide)).trans (cell_fx hM6 f7 hbg 26)) (fun _ => (cell_set_ne _ _ (by decide)).trans (cell_fx hM6 f7 hbg 27)) ?_ ?_ ?_ ?_ ?_
        all_goals simp -implicitDefEqProofs only [go_sem, seval, g4, g6, g8, g9, g10, i0, i1, en]
      · have hcx : w6.cell? (ad.add i) = some (.string ⟨#[110]⟩) := hname
        simp -implicitDefEqProofs only [go_sem, seval, g4, g6, g8, g9, g10, i0, i1, en, hcx, beq_self_eq_true]
        refine (refNum_calls (U := fun k => k < w.heap.size) 4294967295 hU hR6).mono ?_
        rintro v w7 ⟨rfl, h7, f7⟩
        have r := rnum_range 4294967295 (by decide) p.2 hR6.bs
        have e1 : IntKind.u32.wrap (rnum 4294967295 p.2).1 = (rnum 4294967295 p.2).1 := by rw [IntKind.wrap_u32]; omega
        have hM7 := hM6.fx f7 hbg (fun k hk _ e => by have := hV k hk; have : k = g := e; omega)
        obtain ⟨_, hc, hfz, _⟩ := hM7.cell lnN rfl
        simp -implicitDefEqProofs only [go_sem, seval, g4, g6, g8, g9, g10, i0, i1, en, hc, hfz, e1]
        have fz : Fx (only bx) w7 (w7.setCell (At bx 5) (.int .u32 (rnum 4294967295 p.2).1)) := Fx.set _ _ _ rfl
        refine done ((f7.weaken fun k _ e => .inl e).tr (Fx.set _ _ _ (.inr rfl))) (hM7.set lnN hVb ⟨rfl, wfU32 r.1 r.2⟩ (by decide)) (h7.fx fz (fun e => by have : g = bx := e; omega) (fun k hk e => by have := hUlo k hk; have : k = bx := e; omega)) (fun _ => (cell_set_ne _ _ (by decide)).trans (cell_fx hM6 f7 hbg 26)) (fun _ => (cell_set_ne _ _ (by decide)).trans (cell_fx hM6 f7 hbg 27)) ?_ ?_ ?_ ?_ ?_
        all_goals simp -implicitDefEqProofs only [go_sem, seval, g4, g6, g8, g9, g10, i0, i1, en]
      · have hcx : w6.cell? (ad.add i) = some (.string ⟨#[110, 97, 109, 101]⟩) := hname
        simp -implicitDefEqProofs only [go_sem, seval, g4, g6, g8, g9, g10, i0, i1, en, hcx, beq_self_eq_true]
        refine (refText_calls (U := fun k => k < w.heap.size) hU hR6).mono ?_
        rintro v w7 ⟨rfl, hsz, h7, f7⟩
        have hM7 := hM6.fx f7 hbg (fun k hk _ e => by have := hV k hk; have : k = g := e; omega)
        obtain ⟨_, hc, hfz, _⟩ := hM7.cell lnName rfl
        simp -implicitDefEqProofs only [go_sem, seval, g4, g6, g8, g9, g10, i0, i1, en, hc, hfz]
        have fz : Fx (only bx) w7 (w7.setCell (At bx 6) (.string (rtext p.2).1)) := Fx.set _ _ _ rfl
        refine done ((f7.weaken fun k _ e => .inl e).tr (Fx.set _ _ _ (.inr rfl))) (hM7.set lnName hVb ⟨rfl, hsz⟩ (by decide)) (h7.fx fz (fun e => by have : g = bx := e; omega) (fun k hk e => by have := hUlo k hk; have : k = bx := e; omega)) (fun _ => (cell_set_ne _ _ (by decide)).trans (cell_fx hM6 f7 hbg 26)) (fun _ => (cell_set_ne _ _ (by decide)).trans (cell_fx hM6 f7 hbg 27)) ?_ ?_ ?_ ?_ ?_
        all_goals simp -implicitDefEqProofs only [go_sem, seval, g4, g6, g8, g9, g10, i0, i1, en]
      · have hcx : w6.cell? (ad.add i) = some (.string ⟨#[99, 111, 110, 102]⟩) := hname
        simp -implicitDefEqProofs only [go_sem, seval, g4, g6, g8, g9, g10, i0, i1, en, hcx, beq_self_eq_true]
        refine (refText_calls (U := fun k => k < w.heap.size) hU hR6).mono ?_
        rintro v u0 ⟨rfl, hsz, h0a, f0a⟩
        have m0a := MsgAt.fx hM6 f0a hbg (fun k hk _ e => by have := hV k hk; have : k = g := e; omega)
        obtain ⟨_, c0, z0, _⟩ := m0a.cell lnCName rfl
        simp -implicitDefEqProofs only [go_sem, seval, g4, g6, g8, g9, g10, i0, i1, en, c0, z0]
        have q0 : Fx (only bx) u0 (u0.setCell (At bx 7) (.string (rtext p.2).1)) := Fx.set _ _ _ rfl
        have m0 := m0a.set lnCName hVb ⟨rfl, hsz⟩ (by decide)
        have h0 := h0a.fx q0 (fun e => by have : g = bx := e; omega) (fun k hk e => by have := hUlo k hk; have : k = bx := e; omega)
        have x0a := (cell_set_ne u0 (.string (rtext p.2).1) (o := 7) (o2 := 26) (g := bx) (by decide)).trans (cell_fx hM6 f0a hbg 26)
        have x0b := (cell_set_ne u0 (.string (rtext p.2).1) (o := 7) (o2 := 27) (g := bx) (by decide)).trans (cell_fx hM6 f0a hbg 27)
        have s0 := q0.size
        have t0 := f0a.size
        have F0 : Fx (fun k => k = g ∨ k = bx) w6 (u0.setCell (At bx 7) (.string (rtext p.2).1)) := (f0a.weaken fun k _ e => .inl e).tr (Fx.set _ _ _ (.inr rfl))
        generalize u0.setCell (At bx 7) (.string (rtext p.2).1) = y0 at *
        refine (refNum_calls (U := fun k => k < w.heap.size) 255 hU h0).mono ?_
        rintro v u1 ⟨rfl, h1a, f1a⟩
        have r1 := rnum_range 255 (by decide) ((rtext p.2).2) h0.bs
        have e1 : IntKind.u8.wrap (rnum 255 ((rtext p.2).2)).1 = (rnum 255 ((rtext p.2).2)).1 := by rw [IntKind.wrap_u8]; omega
        have m1a := MsgAt.fx m0 f1a hbg (fun k hk _ e => by have := hV k hk; have : k = g := e; omega)
        obtain ⟨_, c1, z1, _⟩ := m1a.cell lnCDim rfl
        simp -implicitDefEqProofs only [go_sem, seval, g4, g6, g8, g9, g10, i0, i1, en, c1, z1, e1]
        have q1 : Fx (only bx) u1 (u1.setCell (At bx 8) (.int .u8 (rnum 255 ((rtext p.2).2)).1)) := Fx.set _ _ _ rfl
        have m1 := m1a.set lnCDim hVb ⟨rfl, u8_wf r1.1 r1.2⟩ (by decide)
        have h1 := h1a.fx q1 (fun e => by have : g = bx := e; omega) (fun k hk e => by have := hUlo k hk; have : k = bx := e; omega)
        have x1a := (cell_set_ne u1 (.int .u8 (rnum 255 ((rtext p.2).2)).1) (o := 8) (o2 := 26) (g := bx) (by decide)).trans (cell_fx m0 f1a hbg 26)
        have x1b := (cell_set_ne u1 (.int .u8 (rnum 255 ((rtext p.2).2)).1) (o := 8) (o2 := 27) (g := bx) (by decide)).trans (cell_fx m0 f1a hbg 27)
        have s1 := q1.size
        have t1 := f1a.size
        have F1 : Fx (fun k => k = g ∨ k = bx) y0 (u1.setCell (At bx 8) (.int .u8 (rnum 255 ((rtext p.2).2)).1)) := (f1a.weaken fun k _ e => .inl e).tr (Fx.set _ _ _ (.inr rfl))
        generalize u1.setCell (At bx 8) (.int .u8 (rnum 255 ((rtext p.2).2)).1) = y1 at *
        refine (refNum_calls (U := fun k => k < w.heap.size) 1 hU h1).mono ?_
        rintro v u2 ⟨rfl, h2a, f2a⟩
        have r2 := rnum_range 1 (by decide) ((rnum 255 ((rtext p.2).2)).2) h1.bs
        have e2 : IntKind.u8.wrap (rnum 1 ((rnum 255 ((rtext p.2).2)).2)).1 = (rnum 1 ((rnum 255 ((rtext p.2).2)).2)).1 := by rw [IntKind.wrap_u8]; omega
        have m2a := MsgAt.fx m1 f2a hbg (fun k hk _ e => by have := hV k hk; have : k = g := e; omega)
        obtain ⟨_, c2, z2, _⟩ := m2a.cell lnCMetric rfl
        simp -implicitDefEqProofs only [go_sem, seval, g4, g6, g8, g9, g10, i0, i1, en, c2, z2, e2]
        have q2 : Fx (only bx) u2 (u2.setCell (At bx 9) (.int .u8 (rnum 1 ((rnum 255 ((rtext p.2).2)).2)).1)) := Fx.set _ _ _ rfl
        have m2 := m2a.set lnCMetric hVb ⟨rfl, u8_wf r2.1 (Int.le_trans r2.2 (by decide))⟩ (by decide)
        have h2 := h2a.fx q2 (fun e => by have : g = bx := e; omega) (fun k hk e => by have := hUlo k hk; have : k = bx := e; omega)
        have x2a := (cell_set_ne u2 (.int .u8 (rnum 1 ((rnum 255 ((rtext p.2).2)).2)).1) (o := 9) (o2 := 26) (g := bx) (by decide)).trans (cell_fx m1 f2a hbg 26)
        have x2b := (cell_set_ne u2 (.int .u8 (rnum 1 ((rnum 255 ((rtext p.2).2)).2)).1) (o := 9) (o2 := 27) (g := bx) (by decide)).trans (cell_fx m1 f2a hbg 27)
        have s2 := q2.size
        have t2 := f2a.size
        have F2 : Fx (fun k => k = g ∨ k = bx) y1 (u2.setCell (At bx 9) (.int .u8 (rnum 1 ((rnum 255 ((rtext p.2).2)).2)).1)) := (f2a.weaken fun k _ e => .inl e).tr (Fx.set _ _ _ (.inr rfl))
        generalize u2.setCell (At bx 9) (.int .u8 (rnum 1 ((rnum 255 ((rtext p.2).2)).2)).1) = y2 at *
        refine (refNum_calls (U := fun k => k < w.heap.size) 1 hU h2).mono ?_
        rintro v u3 ⟨rfl, h3a, f3a⟩
        have m3a := MsgAt.fx m2 f3a hbg (fun k hk _ e => by have := hV k hk; have : k = g := e; omega)
        obtain ⟨_, c3, z3, _⟩ := m3a.cell lnCGraph rfl
        simp -implicitDefEqProofs only [go_sem, seval, g4, g6, g8, g9, g10, i0, i1, en, c3, z3]
        have q3 : Fx (only bx) u3 (u3.setCell (At bx 10) (.bool ((rnum 1 ((rnum 1 ((rnum 255 ((rtext p.2).2)).2)).2)).1 == 1))) := Fx.set _ _ _ rfl
        have m3 := m3a.set lnCGraph hVb (show Kind.bool.rep _ _ ((rnum 1 ((rnum 1 ((rnum 255 ((rtext p.2).2)).2)).2)).1 == 1) [.bool ((rnum 1 ((rnum 1 ((rnum 255 ((rtext p.2).2)).2)).2)).1 == 1)] from rfl) (by decide)
        have h3 := h3a.fx q3 (fun e => by have : g = bx := e; omega) (fun k hk e => by have := hUlo k hk; have : k = bx := e; omega)
        have x3a := (cell_set_ne u3 (.bool ((rnum 1 ((rnum 1 ((rnum 255 ((rtext p.2).2)).2)).2)).1 == 1)) (o := 10) (o2 := 26) (g := bx) (by decide)).trans (cell_fx m2 f3a hbg 26)
        have x3b := (cell_set_ne u3 (.bool ((rnum 1 ((rnum 1 ((rnum 255 ((rtext p.2).2)).2)).2)).1 == 1)) (o := 10) (o2 := 27) (g := bx) (by decide)).trans (cell_fx m2 f3a hbg 27)
        have s3 := q3.size
        have t3 := f3a.size
        have F3 : Fx (fun k => k = g ∨ k = bx) y2 (u3.setCell (At bx 10) (.bool ((rnum 1 ((rnum 1 ((rnum 255 ((rtext p.2).2)).2)).2)).1 == 1))) := (f3a.weaken fun k _ e => .inl e).tr (Fx.set _ _ _ (.inr rfl))
        generalize u3.setCell (At bx 10) (.bool ((rnum 1 ((rnum 1 ((rnum 255 ((rtext p.2).2)).2)).2)).1 == 1)) = y3 at *
        refine (refNum_calls (U := fun k => k < w.heap.size) 255 hU h3).mono ?_
        rintro v u4 ⟨rfl, h4a, f4a⟩
        have r4 := rnum_range 255 (by decide) ((rnum 1 ((rnum 1 ((rnum 255 ((rtext p.2).2)).2)).2)).2) h3.bs
        have e4 : IntKind.u8.wrap (rnum 255 ((rnum 1 ((rnum 1 ((rnum 255 ((rtext p.2).2)).2)).2)).2)).1 = (rnum 255 ((rnum 1 ((rnum 1 ((rnum 255 ((rtext p.2).2)).2)).2)).2)).1 := by rw [IntKind.wrap_u8]; omega
        have m4a := MsgAt.fx m3 f4a hbg (fun k hk _ e => by have := hV k hk; have : k = g := e; omega)
        obtain ⟨_, c4, z4, _⟩ := m4a.cell lnCLinks rfl
        simp -implicitDefEqProofs only [go_sem, seval, g4, g6, g8, g9, g10, i0, i1, en, c4, z4, e4]
        have q4 : Fx (only bx) u4 (u4.setCell (At bx 11) (.int .u8 (rnum 255 ((rnum 1 ((rnum 1 ((rnum 255 ((rtext p.2).2)).2)).2)).2)).1)) := Fx.set _ _ _ rfl
        have m4 := m4a.set lnCLinks hVb ⟨rfl, u8_wf r4.1 r4.2⟩ (by decide)
        have h4 := h4a.fx q4 (fun e => by have : g = bx := e; omega) (fun k hk e => by have := hUlo k hk; have : k = bx := e; omega)
        have x4a := (cell_set_ne u4 (.int .u8 (rnum 255 ((rnum 1 ((rnum 1 ((rnum 255 ((rtext p.2).2)).2)).2)).2)).1) (o := 11) (o2 := 26) (g := bx) (by decide)).trans (cell_fx m3 f4a hbg 26)
        have x4b := (cell_set_ne u4 (.int .u8 (rnum 255 ((rnum 1 ((rnum 1 ((rnum 255 ((rtext p.2).2)).2)).2)).2)).1) (o := 11) (o2 := 27) (g := bx) (by decide)).trans (cell_fx m3 f4a hbg 27)
        have s4 := q4.size
        have t4 := f4a.size
        have F4 : Fx (fun k => k = g ∨ k = bx) y3 (u4.setCell (At bx 11) (.int .u8 (rnum 255 ((rnum 1 ((rnum 1 ((rnum 255 ((rtext p.2).2)).2)).2)).2)).1)) := (f4a.weaken fun k _ e => .inl e).tr (Fx.set _ _ _ (.inr rfl))
        generalize u4.setCell (At bx 11) (.int .u8 (rnum 255 ((rnum 1 ((rnum 1 ((rnum 255 ((rtext p.2).2)).2)).2)).2)).1) = y4 at *
        refine (refNum_calls (U := fun k => k < w.heap.size) 65535 hU h4).mono ?_
        rintro v u5 ⟨rfl, h5a, f5a⟩
        have r5 := rnum_range 65535 (by decide) ((rnum 255 ((rnum 1 ((rnum 1 ((rnum 255 ((rtext p.2).2)).2)).2)).2)).2) h4.bs
        have e5 : IntKind.u16.wrap (rnum 65535 ((rnum 255 ((rnum 1 ((rnum 1 ((rnum 255 ((rtext p.2).2)).2)).2)).2)).2)).1 = (rnum 65535 ((rnum 255 ((rnum 1 ((rnum 1 ((rnum 255 ((rtext p.2).2)).2)).2)).2)).2)).1 := by rw [IntKind.wrap_u16]; omega
        have m5a := MsgAt.fx m4 f5a hbg (fun k hk _ e => by have := hV k hk; have : k = g := e; omega)
        obtain ⟨_, c5, z5, _⟩ := m5a.cell lnCWidth rfl
        simp -implicitDefEqProofs only [go_sem, seval, g4, g6, g8, g9, g10, i0, i1, en, c5, z5, e5]
        have q5 : Fx (only bx) u5 (u5.setCell (At bx 12) (.int .u16 (rnum 65535 ((rnum 255 ((rnum 1 ((rnum 1 ((rnum 255 ((rtext p.2).2)).2)).2)).2)).2)).1)) := Fx.set _ _ _ rfl
        have m5 := m5a.set lnCWidth hVb ⟨rfl, wfU16 r5.1 r5.2⟩ (by decide)
        have h5 := h5a.fx q5 (fun e => by have : g = bx := e; omega) (fun k hk e => by have := hUlo k hk; have : k = bx := e; omega)
        have x5a := (cell_set_ne u5 (.int .u16 (rnum 65535 ((rnum 255 ((rnum 1 ((rnum 1 ((rnum 255 ((rtext p.2).2)).2)).2)).2)).2)).1) (o := 12) (o2 := 26) (g := bx) (by decide)).trans (cell_fx m4 f5a hbg 26)
        have x5b := (cell_set_ne u5 (.int .u16 (rnum 65535 ((rnum 255 ((rnum 1 ((rnum 1 ((rnum 255 ((rtext p.2).2)).2)).2)).2)).2)).1) (o := 12) (o2 := 27) (g := bx) (by decide)).trans (cell_fx m4 f5a hbg 27)
        have s5 := q5.size
        have t5 := f5a.size
        have F5 : Fx (fun k => k = g ∨ k = bx) y4 (u5.setCell (At bx 12) (.int .u16 (rnum 65535 ((rnum 255 ((rnum 1 ((rnum 1 ((rnum 255 ((rtext p.2).2)).2)).2)).2)).2)).1)) := (f5a.weaken fun k _ e => .inl e).tr (Fx.set _ _ _ (.inr rfl))
        generalize u5.setCell (At bx 12) (.int .u16 (rnum 65535 ((rnum 255 ((rnum 1 ((rnum 1 ((rnum 255 ((rtext p.2).2)).2)).2)).2)).2)).1) = y5 at *
        rw [conf_all] at m5
        refine done (((((F0.tr F1).tr F2).tr F3).tr F4).tr F5) m5 h5 (fun _ => (((((x5a.trans x4a).trans x3a).trans x2a).trans x1a).trans x0a)) (fun _ => (((((x5b.trans x4b).trans x3b).trans x2b).trans x1b).trans x0b)) ?_ ?_ ?_ ?_ ?_
        all_goals simp -implicitDefEqProofs only [go_sem, seval, g4, g6, g8, g9, g10, i0, i1, en]
      · have hcx : w6.cell? (ad.add i) = some (.string ⟨#[99, 104, 97, 110, 103, 101, 115]⟩) := hname
        simp -implicitDefEqProofs only [go_sem, seval, g4, g6, g8, g9, g10, i0, i1, en, hcx, beq_self_eq_true]
        refine (refChanges_calls (U := fun k => k < w.heap.size) hU hlt6 hR6).mono ?_
        rintro v w7 ⟨hr, h7, f7⟩
        have ov := kChanges.one hr v (by simp)
        have hM7 := hM6.fx f7 hbg (fun k hk _ e => by have := hV k hk; have : k = g := e; omega)
        obtain ⟨_, hc, hfz, _⟩ := hM7.cell lnChanges rfl
        simp -implicitDefEqProofs only [go_sem, seval, g4, g6, g8, g9, g10, i0, i1, en, hc, hfz, ov]
        have fz : Fx (only bx) w7 (w7.setCell (At bx 13) v) := Fx.set _ _ _ rfl
        refine done ((f7.weaken fun k _ e => .inl e).tr (Fx.set _ _ _ (.inr rfl))) (hM7.set lnChanges hVb (kChanges.mono hr fun k _ hk => hnew k hk) (by decide)) (h7.fx fz (fun e => by have : g = bx := e; omega) (fun k hk e => by have := hUlo k hk; have : k = bx := e; omega)) (fun _ => (cell_set_ne _ _ (by decide)).trans (cell_fx hM6 f7 hbg 26)) (fun _ => (cell_set_ne _ _ (by decide)).trans (cell_fx hM6 f7 hbg 27)) ?_ ?_ ?_ ?_ ?_
        all_goals simp -implicitDefEqProofs only [go_sem, seval, g4, g6, g8, g9, g10, i0, i1, en]
      · have hcx : w6.cell? (ad.add i) = some (.string ⟨#[105, 100]⟩) := hname
        simp -implicitDefEqProofs only [go_sem, seval, g4, g6, g8, g9, g10, i0, i1, en, hcx, beq_self_eq_true]
        refine (refNum_calls (U := fun k => k < w.heap.size) 4294967295 hU hR6).mono ?_
        rintro v w7 ⟨rfl, h7, f7⟩
        have r := rnum_range 4294967295 (by decide) p.2 hR6.bs
        have e1 : IntKind.u32.wrap (rnum 4294967295 p.2).1 = (rnum 4294967295 p.2).1 := by rw [IntKind.wrap_u32]; omega
        have hM7 := hM6.fx f7 hbg (fun k hk _ e => by have := hV k hk; have : k = g := e; omega)
        obtain ⟨_, hc, hfz, _⟩ := hM7.cell lnId rfl
        simp -implicitDefEqProofs only [go_sem, seval, g4, g6, g8, g9, g10, i0, i1, en, hc, hfz, e1]
        have fz : Fx (only bx) w7 (w7.setCell (At bx 14) (.int .u32 (rnum 4294967295 p.2).1)) := Fx.set _ _ _ rfl
        refine done ((f7.weaken fun k _ e => .inl e).tr (Fx.set _ _ _ (.inr rfl))) (hM7.set lnId hVb ⟨rfl, wfU32 r.1 r.2⟩ (by decide)) (h7.fx fz (fun e => by have : g = bx := e; omega) (fun k hk e => by have := hUlo k hk; have : k = bx := e; omega)) (fun _ => (cell_set_ne _ _ (by decide)).trans (cell_fx hM6 f7 hbg 26)) (fun _ => (cell_set_ne _ _ (by decide)).trans (cell_fx hM6 f7 hbg 27)) ?_ ?_ ?_ ?_ ?_
        all_goals simp -implicitDefEqProofs only [go_sem, seval, g4, g6, g8, g9, g10, i0, i1, en]
      · have hcx : w6.cell? (ad.add i) = some (.string ⟨#[118, 101, 99]⟩) := hname
        simp -implicitDefEqProofs only [go_sem, seval, g4, g6, g8, g9, g10, i0, i1, en, hcx, beq_self_eq_true]
        refine (refVec_calls (U := fun k => k < w.heap.size) hU hlt6 hR6).mono ?_
        rintro v w7 ⟨hr, h7, f7⟩
        have ov := kVec.one hr v (by simp)
        have hM7 := hM6.fx f7 hbg (fun k hk _ e => by have := hV k hk; have : k = g := e; omega)
        obtain ⟨_, hc, hfz, _⟩ := hM7.cell lnVec rfl
        simp -implicitDefEqProofs only [go_sem, seval, g4, g6, g8, g9, g10, i0, i1, en, hc, hfz, ov]
        have fz : Fx (only bx) w7 (w7.setCell (At bx 15) v) := Fx.set _ _ _ rfl
        refine done ((f7.weaken fun k _ e => .inl e).tr (Fx.set _ _ _ (.inr rfl))) (hM7.set lnVec hVb (kVec.mono hr fun k _ hk => hnew k hk) (by decide)) (h7.fx fz (fun e => by have : g = bx := e; omega) (fun k hk e => by have := hUlo k hk; have : k = bx := e; omega)) (fun _ => (cell_set_ne _ _ (by decide)).trans (cell_fx hM6 f7 hbg 26)) (fun _ => (cell_set_ne _ _ (by decide)).trans (cell_fx hM6 f7 hbg 27)) ?_ ?_ ?_ ?_ ?_
        all_goals simp -implicitDefEqProofs only [go_sem, seval, g4, g6, g8, g9, g10, i0, i1, en]
      · have hcx : w6.cell? (ad.add i) = some (.string ⟨#[107]⟩) := hname
        simp -implicitDefEqProofs only [go_sem, seval, g4, g6, g8, g9, g10, i0, i1, en, hcx, beq_self_eq_true]
        refine (refNum_calls (U := fun k => k < w.heap.size) 65535 hU hR6).mono ?_
        rintro v w7 ⟨rfl, h7, f7⟩
        have r := rnum_range 65535 (by decide) p.2 hR6.bs
        have e1 : IntKind.u16.wrap (rnum 65535 p.2).1 = (rnum 65535 p.2).1 := by rw [IntKind.wrap_u16]; omega
        have hM7 := hM6.fx f7 hbg (fun k hk _ e => by have := hV k hk; have : k = g := e; omega)
        obtain ⟨_, hc, hfz, _⟩ := hM7.cell lnK rfl
        simp -implicitDefEqProofs only [go_sem, seval, g4, g6, g8, g9, g10, i0, i1, en, hc, hfz, e1]
        have fz : Fx (only bx) w7 (w7.setCell (At bx 16) (.int .u16 (rnum 65535 p.2).1)) := Fx.set _ _ _ rfl
        refine done ((f7.weaken fun k _ e => .inl e).tr (Fx.set _ _ _ (.inr rfl))) (hM7.set lnK hVb ⟨rfl, wfU16 r.1 r.2⟩ (by decide)) (h7.fx fz (fun e => by have : g = bx := e; omega) (fun k hk e => by have := hUlo k hk; have : k = bx := e; omega)) (fun _ => (cell_set_ne _ _ (by decide)).trans (cell_fx hM6 f7 hbg 26)) (fun _ => (cell_set_ne _ _ (by decide)).trans (cell_fx hM6 f7 hbg 27)) ?_ ?_ ?_ ?_ ?_
        all_goals simp -implicitDefEqProofs only [go_sem, seval, g4, g6, g8, g9, g10, i0, i1, en]
      · have hcx : w6.cell? (ad.add i) = some (.string ⟨#[119, 105, 100, 116, 104]⟩) := hname
        simp -implicitDefEqProofs only [go_sem, seval, g4, g6, g8, g9, g10, i0, i1, en, hcx, beq_self_eq_true]
        refine (refNum_calls (U := fun k => k < w.heap.size) 65535 hU hR6).mono ?_
        rintro v w7 ⟨rfl, h7, f7⟩
        have r := rnum_range 65535 (by decide) p.2 hR6.bs
        have e1 : IntKind.u16.wrap (rnum 65535 p.2).1 = (rnum 65535 p.2).1 := by rw [IntKind.wrap_u16]; omega
        have hM7 := hM6.fx f7 hbg (fun k hk _ e => by have := hV k hk; have : k = g := e; omega)
        obtain ⟨_, hc, hfz, _⟩ := hM7.cell lnWidth rfl
        simp -implicitDefEqProofs only [go_sem, seval, g4, g6, g8, g9, g10, i0, i1, en, hc, hfz, e1]
        have fz : Fx (only bx) w7 (w7.setCell (At bx 17) (.int .u16 (rnum 65535 p.2).1)) := Fx.set _ _ _ rfl
        refine done ((f7.weaken fun k _ e => .inl e).tr (Fx.set _ _ _ (.inr rfl))) (hM7.set lnWidth hVb ⟨rfl, wfU16 r.1 r.2⟩ (by decide)) (h7.fx fz (fun e => by have : g = bx := e; omega) (fun k hk e => by have := hUlo k hk; have : k = bx := e; omega)) (fun _ => (cell_set_ne _ _ (by decide)).trans (cell_fx hM6 f7 hbg 26)) (fun _ => (cell_set_ne _ _ (by decide)).trans (cell_fx hM6 f7 hbg 27)) ?_ ?_ ?_ ?_ ?_
        all_goals simp -implicitDefEqProofs only [go_sem, seval, g4, g6, g8, g9, g10, i0, i1, en]
      · have hcx : w6.cell? (ad.add i) = some (.string ⟨#[102, 105, 108, 116, 101, 114]⟩) := hname
        simp -implicitDefEqProofs only [go_sem, seval, g4, g6, g8, g9, g10, i0, i1, en, hcx, beq_self_eq_true]
        have hl0 : ∀ k, (k < w.heap.size) → k < w6.heap.size := fun k hk => by omega
        refine (refTexts_calls (U := fun k => k < w.heap.size) hU hl0 hR6).mono ?_
        rintro v0 u0 ⟨hr0, h0a, f0a⟩
        have ov0 := kTexts.one hr0 v0 (by simp)
        have m0a := MsgAt.fx hM6 f0a hbg (fun k hk _ e => by have := hV k hk; have : k = g := e; omega)
        obtain ⟨_, c0, z0, _⟩ := m0a.cell lnFAll rfl
        simp -implicitDefEqProofs only [go_sem, seval, g4, g6, g8, g9, g10, i0, i1, en, c0, z0, ov0]
        have q0 : Fx (only bx) u0 (u0.setCell (At bx 18) v0) := Fx.set _ _ _ rfl
        have m0 := m0a.set lnFAll hVb (kTexts.mono hr0 fun k _ hk => hnew k (by omega)) (by decide)
        have h0 := h0a.fx q0 (fun e => by have : g = bx := e; omega) (fun k hk e => by have := hUlo k hk; have : k = bx := e; omega)
        have x0a := (cell_set_ne u0 v0 (o := 18) (o2 := 26) (g := bx) (by decide)).trans (cell_fx hM6 f0a hbg 26)
        have x0b := (cell_set_ne u0 v0 (o := 18) (o2 := 27) (g := bx) (by decide)).trans (cell_fx hM6 f0a hbg 27)
        have s0 := q0.size
        have t0 := f0a.size
        have F0 : Fx (fun k => k = g ∨ k = bx) w6 (u0.setCell (At bx 18) v0) := (f0a.weaken fun k _ e => .inl e).tr (Fx.set _ _ _ (.inr rfl))
        generalize u0.setCell (At bx 18) v0 = y0 at *
        have hl1 : ∀ k, (k < w.heap.size) → k < y0.heap.size := fun k hk => by omega
        refine (refTexts_calls (U := fun k => k < w.heap.size) hU hl1 h0).mono ?_
        rintro v1 u1 ⟨hr1, h1a, f1a⟩
        have ov1 := kTexts.one hr1 v1 (by simp)
        have m1a := MsgAt.fx m0 f1a hbg (fun k hk _ e => by have := hV k hk; have : k = g := e; omega)
        obtain ⟨_, c1, z1, _⟩ := m1a.cell lnFAny rfl
        simp -implicitDefEqProofs only [go_sem, seval, g4, g6, g8, g9, g10, i0, i1, en, c1, z1, ov1]
        have q1 : Fx (only bx) u1 (u1.setCell (At bx 19) v1) := Fx.set _ _ _ rfl
        have m1 := m1a.set lnFAny hVb (kTexts.mono hr1 fun k _ hk => hnew k (by omega)) (by decide)
        have h1 := h1a.fx q1 (fun e => by have : g = bx := e; omega) (fun k hk e => by have := hUlo k hk; have : k = bx := e; omega)
        have x1a := (cell_set_ne u1 v1 (o := 19) (o2 := 26) (g := bx) (by decide)).trans (cell_fx m0 f1a hbg 26)
        have x1b := (cell_set_ne u1 v1 (o := 19) (o2 := 27) (g := bx) (by decide)).trans (cell_fx m0 f1a hbg 27)
        have s1 := q1.size
        have t1 := f1a.size
        have F1 : Fx (fun k => k = g ∨ k = bx) y0 (u1.setCell (At bx 19) v1) := (f1a.weaken fun k _ e => .inl e).tr (Fx.set _ _ _ (.inr rfl))
        generalize u1.setCell (At bx 19) v1 = y1 at *
        have hl2 : ∀ k, (k < w.heap.size) → k < y1.heap.size := fun k hk => by omega
        refine (refTexts_calls (U := fun k => k < w.heap.size) hU hl2 h1).mono ?_
        rintro v2 u2 ⟨hr2, h2a, f2a⟩
        have ov2 := kTexts.one hr2 v2 (by simp)
        have m2a := MsgAt.fx m1 f2a hbg (fun k hk _ e => by have := hV k hk; have : k = g := e; omega)
        obtain ⟨_, c2, z2, _⟩ := m2a.cell lnFNone rfl
        simp -implicitDefEqProofs only [go_sem, seval, g4, g6, g8, g9, g10, i0, i1, en, c2, z2, ov2]
        have q2 : Fx (only bx) u2 (u2.setCell (At bx 20) v2) := Fx.set _ _ _ rfl
        have m2 := m2a.set lnFNone hVb (kTexts.mono hr2 fun k _ hk => hnew k (by omega)) (by decide)
        have h2 := h2a.fx q2 (fun e => by have : g = bx := e; omega) (fun k hk e => by have := hUlo k hk; have : k = bx := e; omega)
        have x2a := (cell_set_ne u2 v2 (o := 20) (o2 := 26) (g := bx) (by decide)).trans (cell_fx m1 f2a hbg 26)
        have x2b := (cell_set_ne u2 v2 (o := 20) (o2 := 27) (g := bx) (by decide)).trans (cell_fx m1 f2a hbg 27)
        have s2 := q2.size
        have t2 := f2a.size
        have F2 : Fx (fun k => k = g ∨ k = bx) y1 (u2.setCell (At bx 20) v2) := (f2a.weaken fun k _ e => .inl e).tr (Fx.set _ _ _ (.inr rfl))
        generalize u2.setCell (At bx 20) v2 = y2 at *
        rw [filter_all] at m2
        refine done ((F0.tr F1).tr F2) m2 h2 (fun _ => ((x2a.trans x1a).trans x0a)) (fun _ => ((x2b.trans x1b).trans x0b)) ?_ ?_ ?_ ?_ ?_
        all_goals simp -implicitDefEqProofs only [go_sem, seval, g4, g6, g8, g9, g10, i0, i1, en]
      · have hcx : w6.cell? (ad.add i) = some (.string ⟨#[110, 117, 109]⟩) := hname
        simp -implicitDefEqProofs only [go_sem, seval, g4, g6, g8, g9, g10, i0, i1, en, hcx, beq_self_eq_true]
        refine (refNum_calls (U := fun k => k < w.heap.size) 4294967295 hU hR6).mono ?_
        rintro v w7 ⟨rfl, h7, f7⟩
        have r := rnum_range 4294967295 (by decide) p.2 hR6.bs
        have e1 : IntKind.u32.wrap (rnum 4294967295 p.2).1 = (rnum 4294967295 p.2).1 := by rw [IntKind.wrap_u32]; omega
        have hM7 := hM6.fx f7 hbg (fun k hk _ e => by have := hV k hk; have : k = g := e; omega)
        obtain ⟨_, hc, hfz, _⟩ := hM7.cell lnNum rfl
        simp -implicitDefEqProofs only [go_sem, seval, g4, g6, g8, g9, g10, i0, i1, en, hc, hfz, e1]
        have fz : Fx (only bx) w7 (w7.setCell (At bx 21) (.int .u32 (rnum 4294967295 p.2).1)) := Fx.set _ _ _ rfl
        refine done ((f7.weaken fun k _ e => .inl e).tr (Fx.set _ _ _ (.inr rfl))) (hM7.set lnNum hVb ⟨rfl, wfU32 r.1 r.2⟩ (by decide)) (h7.fx fz (fun e => by have : g = bx := e; omega) (fun k hk e => by have := hUlo k hk; have : k = bx := e; omega)) (fun _ => (cell_set_ne _ _ (by decide)).trans (cell_fx hM6 f7 hbg 26)) (fun _ => (cell_set_ne _ _ (by decide)).trans (cell_fx hM6 f7 hbg 27)) ?_ ?_ ?_ ?_ ?_
        all_goals simp -implicitDefEqProofs only [go_sem, seval, g4, g6, g8, g9, g10, i0, i1, en]
      · have hcx : w6.cell? (ad.add i) = some (.string ⟨#[112, 97, 103, 101]⟩) := hname
        simp -implicitDefEqProofs only [go_sem, seval, g4, g6, g8, g9, g10, i0, i1, en, hcx, beq_self_eq_true]
        refine (refNum_calls (U := fun k => k < w.heap.size) 4294967295 hU hR6).mono ?_
        rintro v w7 ⟨rfl, h7, f7⟩
        have r := rnum_range 4294967295 (by decide) p.2 hR6.bs
        have e1 : IntKind.u32.wrap (rnum 4294967295 p.2).1 = (rnum 4294967295 p.2).1 := by rw [IntKind.wrap_u32]; omega
        have hM7 := hM6.fx f7 hbg (fun k hk _ e => by have := hV k hk; have : k = g := e; omega)
        obtain ⟨_, hc, hfz, _⟩ := hM7.cell lnPage rfl
        simp -implicitDefEqProofs only [go_sem, seval, g4, g6, g8, g9, g10, i0, i1, en, hc, hfz, e1]
        have fz : Fx (only bx) w7 (w7.setCell (At bx 22) (.int .u32 (rnum 4294967295 p.2).1)) := Fx.set _ _ _ rfl
        refine done ((f7.weaken fun k _ e => .inl e).tr (Fx.set _ _ _ (.inr rfl))) (hM7.set lnPage hVb ⟨rfl, wfU32 r.1 r.2⟩ (by decide)) (h7.fx fz (fun e => by have : g = bx := e; omega) (fun k hk e => by have := hUlo k hk; have : k = bx := e; omega)) (fun _ => (cell_set_ne _ _ (by decide)).trans (cell_fx hM6 f7 hbg 26)) (fun _ => (cell_set_ne _ _ (by decide)).trans (cell_fx hM6 f7 hbg 27)) ?_ ?_ ?_ ?_ ?_
        all_goals simp -implicitDefEqProofs only [go_sem, seval, g4, g6, g8, g9, g10, i0, i1, en]
      · have hcx : w6.cell? (ad.add i) = some (.string ⟨#[98, 121, 116, 101, 115]⟩) := hname
        simp -implicitDefEqProofs only [go_sem, seval, g4, g6, g8, g9, g10, i0, i1, en, hcx, beq_self_eq_true]
        refine (refText_calls (U := fun k => k < w.heap.size) hU hR6).mono ?_
        rintro v w7 ⟨rfl, hsz, h7, f7⟩
        simp -implicitDefEqProofs only [go_sem, seval, g9]
        refine cv_text bs8 hsz ?_
        intro c w8 hc8 hm8 he8 k8
        have h8 := h7.keep k8
        have f8 := f7.keep k8
        have hnn : nums (rtext p.2).1 = (rcut p.2).1 := nums_str (rcut_bs hR6.bs)
        rw [hnn] at he8
        have hl8 : (rtext p.2).1.size = (rcut p.2).1.length := by rw [← hnn, nums_len]
        rw [hl8] at hc8 ⊢
        have hM7 := hM6.fx f8 hbg (fun k hk _ e => by have := hV k hk; have : k = g := e; omega)
        obtain ⟨_, hc, hfz, _⟩ := hM7.cell lnBytes rfl
        simp -implicitDefEqProofs only [go_sem, seval, g4, g6, g8, g9, g10, i0, i1, en, hc, hfz]
        have fz : Fx (only bx) w8 (w8.setCell (At bx 23) (.slice (some ⟨w7.heap.size, 0, none⟩) (rcut p.2).1.length c)) := Fx.set _ _ _ rfl
        refine done ((f8.weaken fun k _ e => .inl e).tr (Fx.set _ _ _ (.inr rfl))) (hM7.set lnBytes hVb (kBytesM.mono (⟨_, c, rfl, hc8, hm8, he8⟩ : kBytesM.rep (fun k => w7.heap.size ≤ k) w8 (rcut p.2).1 [.slice (some ⟨w7.heap.size, 0, none⟩) (rcut p.2).1.length c]) fun k _ hk => hnew k (by have := f7.size; omega)) (by decide)) (h8.fx fz (fun e => by have : g = bx := e; omega) (fun k hk e => by have := hUlo k hk; have : k = bx := e; omega)) (fun _ => (cell_set_ne _ _ (by decide)).trans (cell_fx hM6 f8 hbg 26)) (fun _ => (cell_set_ne _ _ (by decide)).trans (cell_fx hM6 f8 hbg 27)) ?_ ?_ ?_ ?_ ?_
        all_goals simp -implicitDefEqProofs only [go_sem, seval, g4, g6, g8, g9, g10, i0, i1, en]
      · have hcx : w6.cell? (ad.add i) = some (.string ⟨#[118, 101, 114, 115, 105, 111, 110]⟩) := hname
        simp -implicitDefEqProofs only [go_sem, seval, g4, g6, g8, g9, g10, i0, i1, en, hcx, beq_self_eq_true]
        refine (refNum_calls (U := fun k => k < w.heap.size) 18446744073709551615 hU hR6).mono ?_
        rintro v w7 ⟨rfl, h7, f7⟩
        have r := rnum_range 18446744073709551615 (by decide) p.2 hR6.bs
        have hM7 := hM6.fx f7 hbg (fun k hk _ e => by have := hV k hk; have : k = g := e; omega)
        obtain ⟨_, hc, hfz, _⟩ := hM7.cell lnVersion rfl
        simp -implicitDefEqProofs only [go_sem, seval, g4, g6, g8, g9, g10, i0, i1, en, hc, hfz]
        have fz : Fx (only bx) w7 (w7.setCell (At bx 24) (.int .u64 (rnum 18446744073709551615 p.2).1)) := Fx.set _ _ _ rfl
        refine done ((f7.weaken fun k _ e => .inl e).tr (Fx.set _ _ _ (.inr rfl))) (hM7.set lnVersion hVb ⟨rfl, wfU64 r.1 r.2⟩ (by decide)) (h7.fx fz (fun e => by have : g = bx := e; omega) (fun k hk e => by have := hUlo k hk; have : k = bx := e; omega)) (fun _ => (cell_set_ne _ _ (by decide)).trans (cell_fx hM6 f7 hbg 26)) (fun _ => (cell_set_ne _ _ (by decide)).trans (cell_fx hM6 f7 hbg 27)) ?_ ?_ ?_ ?_ ?_
        all_goals simp -implicitDefEqProofs only [go_sem, seval, g4, g6, g8, g9, g10, i0, i1, en]
      · have hcx : w6.cell? (ad.add i) = some (.string ⟨#[110, 97, 109, 101, 115]⟩) := hname
        simp -implicitDefEqProofs only [go_sem, seval, g4, g6, g8, g9, g10, i0, i1, en, hcx, beq_self_eq_true]
        refine (refTexts_calls (U := fun k => k < w.heap.size) hU hlt6 hR6).mono ?_
        rintro v w7 ⟨hr, h7, f7⟩
        have ov := kTexts.one hr v (by simp)
        have hM7 := hM6.fx f7 hbg (fun k hk _ e => by have := hV k hk; have : k = g := e; omega)
        obtain ⟨_, hc, hfz, _⟩ := hM7.cell lnNames rfl
        simp -implicitDefEqProofs only [go_sem, seval, g4, g6, g8, g9, g10, i0, i1, en, hc, hfz, ov]
        have fz : Fx (only bx) w7 (w7.setCell (At bx 25) v) := Fx.set _ _ _ rfl
        refine done ((f7.weaken fun k _ e => .inl e).tr (Fx.set _ _ _ (.inr rfl))) (hM7.set lnNames hVb (kTexts.mono hr fun k _ hk => hnew k hk) (by decide)) (h7.fx fz (fun e => by have : g = bx := e; omega) (fun k hk e => by have := hUlo k hk; have : k = bx := e; omega)) (fun _ => (cell_set_ne _ _ (by decide)).trans (cell_fx hM6 f7 hbg 26)) (fun _ => (cell_set_ne _ _ (by decide)).trans (cell_fx hM6 f7 hbg 27)) ?_ ?_ ?_ ?_ ?_
        all_goals simp -implicitDefEqProofs only [go_sem, seval, g4, g6, g8, g9, g10, i0, i1, en]
      · have hcx : w6.cell? (ad.add i) = some (.string ⟨#[105, 116, 101, 109, 115]⟩) := hname
        simp -implicitDefEqProofs only [go_sem, seval, g4, g6, g8, g9, g10, i0, i1, en, hcx, beq_self_eq_true]
        refine (refNum_calls (U := fun k => k < w.heap.size) 128 hU hR6).mono ?_
        rintro v w7 ⟨rfl, h7, f7⟩
        have r := rnum_range 128 (by decide) p.2 hR6.bs
        have hM7 := hM6.fx f7 hbg (fun k hk _ e => by have := hV k hk; have : k = g := e; omega)
        have hc7 : w7.cell? (At bx 26) = some (.slice none 0 0) := (cell_fx hM6 f7 hbg 26).trans (hz26 (List.mem_cons_self ..))
        have hd7 : w7.cell? (At bx 27) = w6.cell? (At bx 27) := cell_fx hM6 f7 hbg 27
        have s7 := f7.size
        obtain ⟨cs, hb7, hr7⟩ := id hM7
        have hcl : cs.length = 28 := kMsg.len hr7
        have h26 : cs[26]? = some (.slice none 0 0) := by rw [hb7.cell 26] at hc7; simpa using hc7
        have h27 : cs[27]? = w6.cell? (At bx 27) := by rw [hb7.cell 27] at hd7; simpa using hd7
        have ecs : cs = cs.take 26 ++ [.slice none 0 0] ++ cs.drop 27 := split_mid h26
        have ef : rfieldP 73 p = ({ p.1 with items := (rlist ritem p.2).1 }, (rlist ritem p.2).2) := rfl
        rw [ef] at done
        unfold rlist at done
        generalize rnum 128 p.2 = q at *
        obtain ⟨n, s1⟩ := q
        simp only at r h7 done
        obtain ⟨N, rfl⟩ := Int.eq_ofNat_of_zero_le r.1
        rw [Int.toNat_natCast] at done
        have eN : IntKind.i64.wrap (N : Int) = (N : Int) := i64_nat (by omega) (by omega)
        simp -implicitDefEqProofs only [go_sem, seval, g4, g6, g8, g9, g10, eN]
        refine loop_intro (fun q f w' => ∃ (j : Nat) (xs : List MItem) (s' : RS) (v : Value), q = N - j ∧ j ≤ N ∧ f 4 = .pointer (some (At rb 0)) ∧ f 6 = .slice (some ad) l.size l.size ∧ f 8 = .pointer (some (At g 0)) ∧ f 9 = .pointer (some (At bx 0)) ∧ f 10 = .int .i64 i ∧ f 11 = .int .i64 N ∧ f 12 = .int .i64 j ∧
            (rmany ritem N s1).1 = xs ++ (rmany ritem (N - j) s').1 ∧ (rmany ritem N s1).2 = (rmany ritem (N - j) s').2 ∧ xs.length = j ∧ Blk w' bx 37 (cs.take 26 ++ [v] ++ cs.drop 27).toArray ∧ OwnR kItem 64 (fun k => w7.heap.size ≤ k) w7.heap.size w' v xs ∧
            RdS 129 (fun k => k < w.heap.size) w' g s' ∧ Fx (fun k => k = g ∨ k = bx) w7 w') N
          ⟨0, [], s1, .slice none 0 0, rfl, by omega, by simp -implicitDefEqProofs only [go_sem, seval, g4], by simp -implicitDefEqProofs only [go_sem, seval, g6], by simp -implicitDefEqProofs only [go_sem, seval, g8], by simp -implicitDefEqProofs only [go_sem, seval, g9], by simp -implicitDefEqProofs only [go_sem, seval, g10], by simp -implicitDefEqProofs only [go_sem, seval], by simp -implicitDefEqProofs only [go_sem, seval] <;> rfl, rfl, rfl, rfl, (by rw [← ecs]; exact hb7), OwnR.nil _ _ _ _ _, h7, Fx.refl _ _⟩ ?_
        rintro q f w8 ⟨j, xs, s', v, rfl, hj, g4, g6, g8, g9, g10, g11, g12, e1, e2, hl, hb8, ho, h8, f8⟩
        obtain ⟨A, c, hbR, hrest⟩ := id h8
        have s8 := f8.size
        have fin : ∀ {xs' : List _} {s'' : RS}, (rmany ritem N s1).1 = xs' → (rmany ritem N s1).2 = s'' → OwnR kItem 64 (fun k => w7.heap.size ≤ k) w7.heap.size w8 v xs' → RdS 129 (fun k => k < w.heap.size) w8 g s'' →
            MsgAt 37 (fun k => rb + 1 ≤ k ∧ k ≠ g ∧ k ≠ bx) w8 bx { p.1 with items := (rmany ritem N s1).1 } ∧ RdS 129 (fun k => k < w.heap.size) w8 g (rmany ritem N s1).2 := by
          rintro xs' s'' rfl rfl k1 k2
          refine ⟨⟨_, hb8, lnItems.put (kMsg.fx hr7 f8 fun k hk e => by rcases e with e | e <;> omega) ?_⟩, k2⟩
          exact kItems.mono (k1.rep _ (fun _ hk => hk) (fun _ hk => hk)) fun k _ hk => hnew k (by omega)
        have h27' : w8.cell? (At bx 27) = w6.cell? (At bx 27) := by
          rw [hb8.cell 27, ← h27]
          simp [hcl, List.getElem?_append]
        by_cases hlt : j < N
        · have z : (j : Int) < (N : Int) := by omega
          by_cases hw : s'.why = 0
          · have z1 : (s'.why == 0) = true := by rw [beq_iff_eq]; exact hw
            simp -implicitDefEqProofs only [go_sem, seval, g4, g6, g8, g9, g10, g11, g12, z, z1, hbR.cell]
            have hb8g : ¬ only g bx := fun e => by have : bx = g := e; omega
            have gU : ∀ k, k < w.heap.size → k < w8.heap.size := fun k hk => by omega
            have kd : Keep w8 w8.drew := Fx.drew _ _
            have h8d := h8.keep kd
            have sd := kd.size
            refine seg_intro (fun w' => Fx (only g) w8 w') (Fx.drew _ _) ?_
            simp -implicitDefEqProofs only [go_sem, seval, g9]
            refine hld_intro v (Fx.drew _ _) (fun w' hw' => by have := (hw'.blk hb8 hb8g).cell 26; rw [mid_at (by simp [hcl])] at this; simp -implicitDefEqProofs only [go_sem, seval, g9, this]; exact ⟨trivial, trivial⟩) ?_
            simp -implicitDefEqProofs only [go_sem, seval, g8]
            refine (refItem_calls (U := fun k => k < w.heap.size) hU (fun k hk => by have := gU k hk; omega) h8d).mono ?_
            rintro v2 w9 ⟨⟨v1, v2, rfl, hr⟩, h9, f9⟩
            have s9 := f9.size
            have f9 := (Fx.drew (only g) w8).tr f9
            refine goE_intro f9 ?_
            simp -implicitDefEqProofs only [go_sem, seval]
            refine bsl_val et34 (by decide) (by decide) (v := .agg #[.int .u32 (ritem s').1.id, v1, v2]) rfl ?_
            have ho9 := ho.fx f9 (fun k hk _ e => by have : k = g := e; omega) (fun k hk e => by have := ho.lt hk; have : k = g := e; omega)
            have kA : Keep w9 (w9.alloc (.cells #[.int .u32 (ritem s').1.id, v1, v2] 64)) := Fx.alloc _ w9 _
            have hbn : CellsAt _ _ _ := (Blk.new w9 64 #[.int .u32 (ritem s').1.id, v1, v2]).cells
            refine goE_intro (f9.keep kA) ?_
            simp -implicitDefEqProofs only [go_sem, seval]
            have ho10 := ho9.keep kA
            have h10 := h9.keep kA
            have hr10 := kItem.keep hr kA
            have hb10 := kA.blk (f9.blk hb8 hb8g) (fun x => x)
            have sA := kA.size
            generalize w9.alloc (.cells #[.int .u32 (ritem s').1.id, v1, v2] 64) = wa at *
            refine append_ownR et34 rfl (by decide) ho10 (kItem.mono hr10 fun k _ hk => ⟨by omega, fun e => by have := ho.lt e; omega⟩) hbn (by omega) (by simp only [maxLen]; omega) (by omega) ?_
            intro v' wb ho11 f11
            have hb11 := f11.blk hb10 (fun e => by have := ho10.lt e; omega)
            have hc11 : wb.cell? (At bx 26) = some v := (hb11.cell 26).trans (mid_at (by simp [hcl]))
            have hz11 : wb.frozen? (At bx 26) = false := hb11.frozen 26
            have h11 := h10.fx f11 (fun e => by have := ho10.lt e; omega) (fun k hk e => by have := ho10.lt e; have : k < w.heap.size := hk; omega)
            have ov : v'.oneCell' = true := kItems.one (ho11.rep (by decide) (U' := fun _ => True) (fun _ _ => trivial) (fun _ _ => trivial)) v' (by simp)
            have s11 := f11.size
            have fS : Fx (only bx) wb (wb.setCell (At bx 26) v') := Fx.set _ _ _ rfl
            have ho12 := ho11.fx fS (fun k hk _ e => by have : k = bx := e; omega) (fun k hk e => by have := ho11.lt hk; have : k = bx := e; omega)
            have h12 := h11.fx fS (fun e => by have : g = bx := e; omega) (fun k hk e => by have : k = bx := e; have : k < w.heap.size := hk; omega)
            have hb12 := hb11.set 26 v'
            rw [set_mid (by simp [hcl])] at hb12
            have F12 : Fx (fun k => k = g ∨ k = bx) w7 (wb.setCell (At bx 26) v') := (((f8.new f9 (fun k e _ => .inl e)).keep kA).new f11 (fun k e hk => by have := ho10.lt e; omega)).new fS (fun k e _ => .inr e)
            have eJ : IntKind.i64.wrap ((j : Int) + 1) = ((j + 1 : Nat) : Int) := i64_nat (by omega) (by omega)
            have again : (rmany ritem N s1).1 = (xs ++ [(ritem s').1]) ++ (rmany ritem (N - (j + 1)) (ritem s').2).1 ∧ (rmany ritem N s1).2 = (rmany ritem (N - (j + 1)) (ritem s').2).2 := by
              have hn : N - j = (N - (j + 1)) + 1 := by omega
              rw [e1, e2, hn]
              simp [rmany, hw]
            simp -implicitDefEqProofs only [go_sem, seval, g4, g6, g8, g9, g10, g11, g12, hc11, hz11, ov, eJ]
            exact ⟨N - (j + 1), by omega, j + 1, _, _, v', rfl, by omega, by simp -implicitDefEqProofs only [go_sem, seval, g4], by simp -implicitDefEqProofs only [go_sem, seval, g6], by simp -implicitDefEqProofs only [go_sem, seval, g8], by simp -implicitDefEqProofs only [go_sem, seval, g9], by simp -implicitDefEqProofs only [go_sem, seval, g10], by simp -implicitDefEqProofs only [go_sem, seval, g11], by simp -implicitDefEqProofs only [go_sem, seval], again.1, again.2, by simp [hl], hb12, ho12, h12, F12⟩
          · have z1 : (s'.why == 0) = false := by rw [beq_eq_false_iff_ne]; exact hw
            rw [many_stay hw] at e1 e2
            obtain ⟨q1, q2⟩ := fin (by rw [e1]; simp) (by rw [e2]) ho h8
            simp -implicitDefEqProofs only [go_sem, seval, g4, g6, g8, g9, g10, g11, g12, i0, i1, en, z, z1, hbR.cell]
            refine done ((f7.weaken fun k _ e => .inl e).tr f8) q1 q2 (fun h => absurd rfl h) (fun _ => h27') ?_ ?_ ?_ ?_ ?_
            all_goals simp -implicitDefEqProofs only [go_sem, seval, g4, g6, g8, g9, g10, en]
        · have z : ¬ (j : Int) < (N : Int) := by omega
          have hiN : N - j = 0 := by omega
          rw [hiN] at e1 e2
          obtain ⟨q1, q2⟩ := fin (by rw [e1]; simp [rmany]) (by rw [e2]; rfl) ho h8
          simp -implicitDefEqProofs only [go_sem, seval, g4, g6, g8, g9, g10, g11, g12, i0, i1, en, z]
          refine done ((f7.weaken fun k _ e => .inl e).tr f8) q1 q2 (fun h => absurd rfl h) (fun _ => h27') ?_ ?_ ?_ ?_ ?_
          all_goals simp -implicitDefEqProofs only [go_sem, seval, g4, g6, g8, g9, g10, en]
      · have hcx : w6.cell? (ad.add i) = some (.string ⟨#[104, 105, 116, 115]⟩) := hname
        simp -implicitDefEqProofs only [go_sem, seval, g4, g6, g8, g9, g10, i0, i1, en, hcx, beq_self_eq_true]
        refine (refNum_calls (U := fun k => k < w.heap.size) 128 hU hR6).mono ?_
        rintro v w7 ⟨rfl, h7, f7⟩
        have r := rnum_range 128 (by decide) p.2 hR6.bs
        have hM7 := hM6.fx f7 hbg (fun k hk _ e => by have := hV k hk; have : k = g := e; omega)
        have hc7 : w7.cell? (At bx 27) = some (.slice none 0 0) := (cell_fx hM6 f7 hbg 27).trans (hz27 (List.mem_cons_self ..))
        have hd7 : w7.cell? (At bx 26) = w6.cell? (At bx 26) := cell_fx hM6 f7 hbg 26
        have s7 := f7.size
        obtain ⟨cs, hb7, hr7⟩ := id hM7
        have hcl : cs.length = 28 := kMsg.len hr7
        have h26 : cs[27]? = some (.slice none 0 0) := by rw [hb7.cell 27] at hc7; simpa using hc7
        have h27 : cs[26]? = w6.cell? (At bx 26) := by rw [hb7.cell 26] at hd7; simpa using hd7
        have ecs : cs = cs.take 27 ++ [.slice none 0 0] ++ cs.drop 28 := split_mid h26
        have ef : rfieldP 72 p = ({ p.1 with hits := (rlist rhit p.2).1 }, (rlist rhit p.2).2) := rfl
        rw [ef] at done
        unfold rlist at done
        generalize rnum 128 p.2 = q at *
        obtain ⟨n, s1⟩ := q
        simp only at r h7 done
        obtain ⟨N, rfl⟩ := Int.eq_ofNat_of_zero_le r.1
        rw [Int.toNat_natCast] at done
        have eN : IntKind.i64.wrap (N : Int) = (N : Int) := i64_nat (by omega) (by omega)
        simp -implicitDefEqProofs only [go_sem, seval, g4, g6, g8, g9, g10, eN]
        refine loop_intro (fun q f w' => ∃ (j : Nat) (xs : List MHit) (s' : RS) (v : Value), q = N - j ∧ j ≤ N ∧ f 4 = .pointer (some (At rb 0)) ∧ f 6 = .slice (some ad) l.size l.size ∧ f 8 = .pointer (some (At g 0)) ∧ f 9 = .pointer (some (At bx 0)) ∧ f 10 = .int .i64 i ∧ f 13 = .int .i64 N ∧ f 14 = .int .i64 j ∧
            (rmany rhit N s1).1 = xs ++ (rmany rhit (N - j) s').1 ∧ (rmany rhit N s1).2 = (rmany rhit (N - j) s').2 ∧ xs.length = j ∧ Blk w' bx 37 (cs.take 27 ++ [v] ++ cs.drop 28).toArray ∧ OwnR kHit 138 (fun k => w7.heap.size ≤ k) w7.heap.size w' v xs ∧
            RdS 129 (fun k => k < w.heap.size) w' g s' ∧ Fx (fun k => k = g ∨ k = bx) w7 w') N
          ⟨0, [], s1, .slice none 0 0, rfl, by omega, by simp -implicitDefEqProofs only [go_sem, seval, g4], by simp -implicitDefEqProofs only [go_sem, seval, g6], by simp -implicitDefEqProofs only [go_sem, seval, g8], by simp -implicitDefEqProofs only [go_sem, seval, g9], by simp -implicitDefEqProofs only [go_sem, seval, g10], by simp -implicitDefEqProofs only [go_sem, seval], by simp -implicitDefEqProofs only [go_sem, seval] <;> rfl, rfl, rfl, rfl, (by rw [← ecs]; exact hb7), OwnR.nil _ _ _ _ _, h7, Fx.refl _ _⟩ ?_
        rintro q f w8 ⟨j, xs, s', v, rfl, hj, g4, g6, g8, g9, g10, g13, g14, e1, e2, hl, hb8, ho, h8, f8⟩
        obtain ⟨A, c, hbR, hrest⟩ := id h8
        have s8 := f8.size
        have fin : ∀ {xs' : List _} {s'' : RS}, (rmany rhit N s1).1 = xs' → (rmany rhit N s1).2 = s'' → OwnR kHit 138 (fun k => w7.heap.size ≤ k) w7.heap.size w8 v xs' → RdS 129 (fun k => k < w.heap.size) w8 g s'' →
            MsgAt 37 (fun k => rb + 1 ≤ k ∧ k ≠ g ∧ k ≠ bx) w8 bx { p.1 with hits := (rmany rhit N s1).1 } ∧ RdS 129 (fun k => k < w.heap.size) w8 g (rmany rhit N s1).2 := by
          rintro xs' s'' rfl rfl k1 k2
          refine ⟨⟨_, hb8, lnHits.put (kMsg.fx hr7 f8 fun k hk e => by rcases e with e | e <;> omega) ?_⟩, k2⟩
          exact kHits.mono (k1.rep _ (fun _ hk => hk) (fun _ hk => hk)) fun k _ hk => hnew k (by omega)
        have h27' : w8.cell? (At bx 26) = w6.cell? (At bx 26) := by
          rw [hb8.cell 26, ← h27]
          simp [hcl, List.getElem?_append]
        by_cases hlt : j < N
        · have z : (j : Int) < (N : Int) := by omega
          by_cases hw : s'.why = 0
          · have z1 : (s'.why == 0) = true := by rw [beq_iff_eq]; exact hw
            simp -implicitDefEqProofs only [go_sem, seval, g4, g6, g8, g9, g10, g13, g14, z, z1, hbR.cell]
            have hb8g : ¬ only g bx := fun e => by have : bx = g := e; omega
            have gU : ∀ k, k < w.heap.size → k < w8.heap.size := fun k hk => by omega
            refine (refWhole_calls (U := fun k => k < w.heap.size) (-9223372036854775808) 9223372036854775807 hU h8).mono ?_
            rintro v2 w9 ⟨rfl, h9, f9⟩
            have r3 := rwhole_range (-9223372036854775808) 9223372036854775807 (by decide) (by decide) s'
            have s9 := f9.size
            have hbh : Blk _ _ _ _ := Blk.new w9 138 #[.int .i64 0, .int .u32 0]
            have S0 := stB (P := Tryz.prog) (o := 0) sz138 hbh (by decide)
            have hyA : Blk _ _ _ #[.int .i64 (rwhole (-9223372036854775808) 9223372036854775807 s').1, .int .u32 0] := hbh.put 0 [.int .i64 (rwhole (-9223372036854775808) 9223372036854775807 s').1, .int .u32 0]
            have kA : Keep w9 (putW (w9.alloc (.cells #[.int .i64 0, .int .u32 0] 138)) w9.heap.size 0 [.int .i64 (rwhole (-9223372036854775808) 9223372036854775807 s').1, .int .u32 0]) := (Fx.alloc (fun _ => False) w9 _).new (Fx.put (m := only w9.heap.size) _ _ _ _ rfl) (fun k e hk => by have : k = w9.heap.size := e; omega)
            simp -implicitDefEqProofs only [go_sem, seval, S0]
            generalize putW (w9.alloc (.cells #[.int .i64 0, .int .u32 0] 138)) w9.heap.size 0 [.int .i64 (rwhole (-9223372036854775808) 9223372036854775807 s').1, .int .u32 0] = w10 at *
            obtain ⟨yb, hyb⟩ : ∃ y, y = w9.heap.size := ⟨_, rfl⟩
            rw [← hyb] at hyA ⊢
            have hyl := hyA.lt
            have h10 := h9.keep kA
            simp -implicitDefEqProofs only [go_sem, seval, g8]
            refine (refNum_calls (U := fun k => k < w.heap.size) 4294967295 hU h10).mono ?_
            rintro v2 w11 ⟨rfl, hx11, fx11⟩
            have r4 := rnum_range 4294967295 (by decide) (rwhole (-9223372036854775808) 9223372036854775807 s').2 h10.bs
            have e4 : IntKind.u32.wrap (rnum 4294967295 (rwhole (-9223372036854775808) 9223372036854775807 s').2).1 = (rnum 4294967295 (rwhole (-9223372036854775808) 9223372036854775807 s').2).1 := by rw [IntKind.wrap_u32]; omega
            have hs11 := fx11.size
            have hy11 := fx11.blk hyA (fun e => by have : yb = g := e; omega)
            simp -implicitDefEqProofs only [go_sem, seval, e4, hy11.cell, hy11.frozen]
            have hy12 := hy11.set 1 (.int .u32 (rnum 4294967295 (rwhole (-9223372036854775808) 9223372036854775807 s').2).1)
            simp only [List.setIfInBounds_toArray, List.set_cons_succ, List.set_cons_zero] at hy12
            have fy : Fx (only yb) w11 (w11.setCell (At yb 1) (.int .u32 (rnum 4294967295 (rwhole (-9223372036854775808) 9223372036854775807 s').2).1)) := Fx.set _ _ _ rfl
            have h12 := hx11.fx fy (fun e => by have : g = yb := e; omega) (fun k hk e => by have : k = yb := e; have : k < w.heap.size := hk; omega)
            have hb12 : Blk (w11.setCell (At yb 1) (.int .u32 (rnum 4294967295 (rwhole (-9223372036854775808) 9223372036854775807 s').2).1)) bx 37 (cs.take 27 ++ [v] ++ cs.drop 28).toArray := fy.blk (fx11.blk (kA.blk (f9.blk hb8 (fun e => by have : bx = g := e; omega)) (fun x => x)) (fun e => by have : bx = g := e; omega)) (fun e => by have : bx = yb := e; omega)
            have F9 : Fx (only g) w8 (w11.setCell (At yb 1) (.int .u32 (rnum 4294967295 (rwhole (-9223372036854775808) 9223372036854775807 s').2).1)) := ((f9.keep kA).tr fx11).new fy (fun k e hk => by have : k = yb := e; omega)
            generalize w11.setCell (At yb 1) (.int .u32 (rnum 4294967295 (rwhole (-9223372036854775808) 9223372036854775807 s').2).1) = w12 at *
            have L1 : ldV Tryz.prog w12 138 (.pointer (some (At yb 0))) = some (.agg #[.int .i64 (rwhole (-9223372036854775808) 9223372036854775807 s').1, .int .u32 (rnum 4294967295 (rwhole (-9223372036854775808) 9223372036854775807 s').2).1]) := ldV_agg sh138 rfl hy12.cells
            have hc12 : w12.cell? (At bx 27) = some v := (hb12.cell 27).trans (mid_at (by simp [hcl]))
            simp -implicitDefEqProofs only [go_sem, seval, g9, hc12, L1]
            refine bsl_val et35 (by decide) (by decide) (v := .agg #[.int .i64 (rwhole (-9223372036854775808) 9223372036854775807 s').1, .int .u32 (rnum 4294967295 (rwhole (-9223372036854775808) 9223372036854775807 s').2).1]) rfl ?_
            have ho12 := ho.fx F9 (fun k hk _ e => by have : k = g := e; omega) (fun k hk e => by have := ho.lt hk; have : k = g := e; omega)
            have kA : Keep w12 (w12.alloc (.cells #[.int .i64 (rwhole (-9223372036854775808) 9223372036854775807 s').1, .int .u32 (rnum 4294967295 (rwhole (-9223372036854775808) 9223372036854775807 s').2).1] 138)) := Fx.alloc _ w12 _
            have hbn : CellsAt _ _ _ := (Blk.new w12 138 #[.int .i64 (rwhole (-9223372036854775808) 9223372036854775807 s').1, .int .u32 (rnum 4294967295 (rwhole (-9223372036854775808) 9223372036854775807 s').2).1]).cells
            simp -implicitDefEqProofs only [go_sem, seval]
            have ho10 := ho12.keep kA
            have h10 := h12.keep kA
            have hr10 : kHit.rep (fun k => w12.heap.size ≤ k) (w12.alloc (.cells #[.int .i64 (rwhole (-9223372036854775808) 9223372036854775807 s').1, .int .u32 (rnum 4294967295 (rwhole (-9223372036854775808) 9223372036854775807 s').2).1] 138)) (rhit s').1 [.int .i64 (rwhole (-9223372036854775808) 9223372036854775807 s').1, .int .u32 (rnum 4294967295 (rwhole (-9223372036854775808) 9223372036854775807 s').2).1] := kHit_mk (x := ⟨(rwhole (-9223372036854775808) 9223372036854775807 s').1, _⟩) (wfI64 r3.1 r3.2) (wfU32 r4.1 r4.2)
            have hb10 := kA.blk hb12 (fun x => x)
            have sA := kA.size
            have s12 := F9.size
            generalize w12.alloc (.cells #[.int .i64 (rwhole (-9223372036854775808) 9223372036854775807 s').1, .int .u32 (rnum 4294967295 (rwhole (-9223372036854775808) 9223372036854775807 s').2).1] 138) = wa at *
            refine append_ownR et35 rfl (by decide) ho10 (kHit.mono hr10 fun k _ hk => ⟨by omega, fun e => by have := ho.lt e; omega⟩) hbn (by omega) (by simp only [maxLen]; omega) (by omega) ?_
            intro v' wb ho11 f11
            have hb11 := f11.blk hb10 (fun e => by have := ho10.lt e; omega)
            have hc11 : wb.cell? (At bx 27) = some v := (hb11.cell 27).trans (mid_at (by simp [hcl]))
            have hz11 : wb.frozen? (At bx 27) = false := hb11.frozen 27
            have h11 := h10.fx f11 (fun e => by have := ho10.lt e; omega) (fun k hk e => by have := ho10.lt e; have : k < w.heap.size := hk; omega)
            have ov : v'.oneCell' = true := kHits.one (ho11.rep (by decide) (U' := fun _ => True) (fun _ _ => trivial) (fun _ _ => trivial)) v' (by simp)
            have s11 := f11.size
            have fS : Fx (only bx) wb (wb.setCell (At bx 27) v') := Fx.set _ _ _ rfl
            have ho12 := ho11.fx fS (fun k hk _ e => by have : k = bx := e; omega) (fun k hk e => by have := ho11.lt hk; have : k = bx := e; omega)
            have h12 := h11.fx fS (fun e => by have : g = bx := e; omega) (fun k hk e => by have : k = bx := e; have : k < w.heap.size := hk; omega)
            have hb12 := hb11.set 27 v'
            rw [set_mid (by simp [hcl])] at hb12
            have F12 : Fx (fun k => k = g ∨ k = bx) w7 (wb.setCell (At bx 27) v') := (((f8.new F9 (fun k e _ => .inl e)).keep kA).new f11 (fun k e hk => by have := ho10.lt e; omega)).new fS (fun k e _ => .inr e)
            have eJ : IntKind.i64.wrap ((j : Int) + 1) = ((j + 1 : Nat) : Int) := i64_nat (by omega) (by omega)
            have again : (rmany rhit N s1).1 = (xs ++ [(rhit s').1]) ++ (rmany rhit (N - (j + 1)) (rhit s').2).1 ∧ (rmany rhit N s1).2 = (rmany rhit (N - (j + 1)) (rhit s').2).2 := by
              have hn : N - j = (N - (j + 1)) + 1 := by omega
              rw [e1, e2, hn]
              simp [rmany, hw]
            simp -implicitDefEqProofs only [go_sem, seval, g4, g6, g8, g9, g10, g13, g14, hc11, hz11, ov, eJ]
            exact ⟨N - (j + 1), by omega, j + 1, _, _, v', rfl, by omega, by simp -implicitDefEqProofs only [go_sem, seval, g4], by simp -implicitDefEqProofs only [go_sem, seval, g6], by simp -implicitDefEqProofs only [go_sem, seval, g8], by simp -implicitDefEqProofs only [go_sem, seval, g9], by simp -implicitDefEqProofs only [go_sem, seval, g10], by simp -implicitDefEqProofs only [go_sem, seval, g13], by simp -implicitDefEqProofs only [go_sem, seval], again.1, again.2, by simp [hl], hb12, ho12, h12, F12⟩
          · have z1 : (s'.why == 0) = false := by rw [beq_eq_false_iff_ne]; exact hw
            rw [many_stay hw] at e1 e2
            obtain ⟨q1, q2⟩ := fin (by rw [e1]; simp) (by rw [e2]) ho h8
            simp -implicitDefEqProofs only [go_sem, seval, g4, g6, g8, g9, g10, g13, g14, i0, i1, en, z, z1, hbR.cell]
            refine done ((f7.weaken fun k _ e => .inl e).tr f8) q1 q2 (fun _ => h27') (fun h => absurd rfl h) ?_ ?_ ?_ ?_ ?_
            all_goals simp -implicitDefEqProofs only [go_sem, seval, g4, g6, g8, g9, g10, en]
        · have z : ¬ (j : Int) < (N : Int) := by omega
          have hiN : N - j = 0 := by omega
          rw [hiN] at e1 e2
          obtain ⟨q1, q2⟩ := fin (by rw [e1]; simp [rmany]) (by rw [e2]; rfl) ho h8
          simp -implicitDefEqProofs only [go_sem, seval, g4, g6, g8, g9, g10, g13, g14, i0, i1, en, z]
          refine done ((f7.weaken fun k _ e => .inl e).tr f8) q1 q2 (fun _ => h27') (fun h => absurd rfl h) ?_ ?_ ?_ ?_ ?_
          all_goals simp -implicitDefEqProofs only [go_sem, seval, g4, g6, g8, g9, g10, en]
    · have i1 : ¬ (i : Int) < (l.size : Int) := by omega
      have hdr : (nums l).drop i = [] := List.drop_of_length_le (by rw [nums_len]; omega)
      rw [hdr] at hfold
      have hfold : p = getFold (nums l) (zMsg kind, ⟨b, 0⟩) := hfold
      simp -implicitDefEqProofs only [go_sem, seval, g4, g6, g8, g9, g10, i1]
      refine (refEnd_calls (U := fun k => k < w.heap.size) hU hR6).mono ?_
      rintro v w7 ⟨rfl, h7, f7⟩
      rw [← hfold] at hgm
      have kk7 := kk6.new f7 (fun k e hk => by have : k = g := e; omega)
      have hrz7 := f7.blk hrz6 (fun e => by have : rb = g := e; omega)
      have hM7 := hM6.fx f7 hbg (fun k hk _ e => by have : k = g := e; omega)
      have S0 := stB (P := Tryz.prog) (o := 0) sz37 hrz7 (by decide)
      have L0 := ldP (P := Tryz.prog) sh37 hrz7 rfl
      by_cases hz : (rend p.2).why = 0
      · rw [if_pos hz] at hgm
        rw [hgm]
        obtain ⟨cz, ldz, hrz⟩ := msg_load hM7
        have hl := kMsg.len hrz
        have z1 : ((rend p.2).why != 0) = false := by simp [hz]
        obtain ⟨h1, h2⟩ := fin kk7 hrz7 (kMsg.mono hrz fun k _ hk => hk.1)
        have S1 := S0 cz hl (allOne_of (kMsg.one hrz))
        have L1 := L0 cz hl
        simp -implicitDefEqProofs only [go_sem, seval, g4, g6, g8, g9, g10, z1, ldz, S1, L1]
        exact ⟨_, rfl, h1, h2⟩
      · rw [if_neg hz] at hgm
        rw [hgm]
        have z1 : ((rend p.2).why != 0) = true := by simp [hz]
        obtain ⟨h1, h2⟩ := fin kk7 hrz7 (zMsg_rep (k := 0) (by decide) (by decide))
        simp -implicitDefEqProofs only [go_sem, seval, g4, g6, g8, g9, g10, z1, S0, L0]
        exact ⟨_, rfl, h1, h2⟩
end Go.Proofs.YtnlibeaainbipaaGreat.F
