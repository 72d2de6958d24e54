/- A reader of frames: what it finds next. Conditions: its bytes stand in memory of its own. -/
import Derived.Test.YtnlibeaainbipaaFenc
namespace Go.Proofs.Ytnlibeaainbipaa.F
open Go.RowKit Go.Proofs.Ytnlibeaainbipaa.M Go.Proofs.Ytnlibeaainbipaa.V
set_option linter.unusedSimpArgs false
set_option linter.unusedVariables false
set_option maxRecDepth 20000
theorem orN {a b i : Nat} (hb : b < 2 ^ i) (ha : 2 ^ i * a + b < 4294967296) : bits BinOp.or IntKind.u32 ((2 ^ i * a : Nat) : Int) (b : Int) = ((2 ^ i * a + b : Nat) : Int) := by
  simp only [bits, BitVec.ofInt_natCast, BitVec.toNat_or, BitVec.toNat_ofNat]
  have e : ∀ z : Nat, z < 4294967296 → z % 2 ^ IntKind.u32.bits = z := fun z h => Nat.mod_eq_of_lt h
  rw [e _ (by omega), e _ (by omega), ← Nat.two_pow_add_eq_or_of_lt hb a, IntKind.wrap_u32]
  omega
theorem or4 {t0 t1 t2 t3 : Int} (h0 : 0 ≤ t0 ∧ t0 ≤ 255) (h1 : 0 ≤ t1 ∧ t1 ≤ 255) (h2 : 0 ≤ t2 ∧ t2 ≤ 255) (h3 : 0 ≤ t3 ∧ t3 ≤ 255) :
    bits BinOp.or IntKind.u32 (bits BinOp.or IntKind.u32 (bits BinOp.or IntKind.u32 (IntKind.u32.wrap (IntKind.u32.wrap t0 * 2 ^ min 24 32)) (IntKind.u32.wrap (IntKind.u32.wrap t1 * 2 ^ min 16 32))) (IntKind.u32.wrap (IntKind.u32.wrap t2 * 256))) (IntKind.u32.wrap t3) = t0 * 16777216 + t1 * 65536 + t2 * 256 + t3 := by
  obtain ⟨a, rfl⟩ := Int.eq_ofNat_of_zero_le h0.1
  obtain ⟨b, rfl⟩ := Int.eq_ofNat_of_zero_le h1.1
  obtain ⟨c, rfl⟩ := Int.eq_ofNat_of_zero_le h2.1
  obtain ⟨d, rfl⟩ := Int.eq_ofNat_of_zero_le h3.1
  have w0 : IntKind.u32.wrap (IntKind.u32.wrap (a : Int) * 2 ^ min 24 32) = ((2 ^ 24 * a : Nat) : Int) := by rw [IntKind.wrap_u32, IntKind.wrap_u32, show ((2 : Int) ^ min 24 32) = 16777216 by decide]; omega
  have w1 : IntKind.u32.wrap (IntKind.u32.wrap (b : Int) * 2 ^ min 16 32) = ((65536 * b : Nat) : Int) := by rw [IntKind.wrap_u32, IntKind.wrap_u32, show ((2 : Int) ^ min 16 32) = 65536 by decide]; omega
  have w2 : IntKind.u32.wrap (IntKind.u32.wrap (c : Int) * 256) = ((256 * c : Nat) : Int) := by rw [IntKind.wrap_u32, IntKind.wrap_u32]; omega
  have w3 : IntKind.u32.wrap (d : Int) = ((d : Nat) : Int) := by rw [IntKind.wrap_u32]; omega
  rw [w0, w1, w2, w3, orN (i := 24) (by omega) (by omega)]
  rw [show 2 ^ 24 * a + 65536 * b = 2 ^ 16 * (256 * a + b) by omega, orN (i := 16) (by omega) (by omega)]
  rw [show 2 ^ 16 * (256 * a + b) + 256 * c = 2 ^ 8 * (65536 * a + 256 * b + c) by omega, orN (i := 8) (by omega) (by omega)]
  omega
theorem sum4_eq {s t0 t1 t2 t3 : Int} (hs : 0 ≤ s ∧ s < 4294967296) (h0 : 0 ≤ t0 ∧ t0 ≤ 255) (h1 : 0 ≤ t1 ∧ t1 ≤ 255) (h2 : 0 ≤ t2 ∧ t2 ≤ 255) (h3 : 0 ≤ t3 ∧ t3 ≤ 255) : sum4 s = [t0, t1, t2, t3] ↔ t0 * 16777216 + t1 * 65536 + t2 * 256 + t3 = s := by
  simp only [sum4, List.cons.injEq, and_true]
  omega
theorem four_at {b : List Int} {i : Nat} (h : i + 4 ≤ b.length) : (b.drop i).take 4 = [b[i], b[i + 1], b[i + 2], b[i + 3]] := by
  rw [List.drop_eq_getElem_cons (by omega), List.drop_eq_getElem_cons (by omega), List.drop_eq_getElem_cons (by omega), List.drop_eq_getElem_cons (by omega)]
  rfl
def at4 (i : Nat) (c : Int) : Int := if (i = 0 ∧ c ≠ 76) ∨ (i = 1 ∧ c ≠ 68) then 70 else if i = 2 ∧ c ≠ 1 then 71 else if i = 3 ∧ (c < 1 ∨ 24 < c) then 61 else 0
def preN : Nat → Nat → List Int → Int
  | 0, _, _ => 0
  | _ + 1, _, [] => 40
  | n + 1, i, c :: r => if at4 i c = 0 then preN n (i + 1) r else at4 i c
/-- What a reader of frames finds: a message, an error, the bytes that wait, the error for ever. -/
def failF (e : Int) : Msg × Int × List Int × Int := (zMsg 0, e, [], e)
def moreF (b : List Int) : Msg × Int × List Int × Int := (zMsg 0, 40, b, 0)
def nextF (b : List Int) : Msg × Int × List Int × Int :=
  if preN 4 0 b = 40 then moreF b else if preN 4 0 b ≠ 0 then failF (preN 4 0 b) else
  if (vget (b.drop 4)).2.2 = 41 then failF 41 else if (vget (b.drop 4)).2.2 ≠ 0 then moreF b else
  if 4096 < (vget (b.drop 4)).1 then failF 72 else
  if b.length < 4 + (vget (b.drop 4)).2.1.toNat + (vget (b.drop 4)).1.toNat + 4 then moreF b else
  if sum4 (crcI (b.take (4 + (vget (b.drop 4)).2.1.toNat + (vget (b.drop 4)).1.toNat))) ≠ (b.drop (4 + (vget (b.drop 4)).2.1.toNat + (vget (b.drop 4)).1.toNat)).take 4 then failF 73 else
  if (getMsg (b[3]?.getD 0) ((b.take (4 + (vget (b.drop 4)).2.1.toNat + (vget (b.drop 4)).1.toNat)).drop (4 + (vget (b.drop 4)).2.1.toNat))).2 ≠ 0 then failF (getMsg (b[3]?.getD 0) ((b.take (4 + (vget (b.drop 4)).2.1.toNat + (vget (b.drop 4)).1.toNat)).drop (4 + (vget (b.drop 4)).2.1.toNat))).2 else
  ((getMsg (b[3]?.getD 0) ((b.take (4 + (vget (b.drop 4)).2.1.toNat + (vget (b.drop 4)).1.toNat)).drop (4 + (vget (b.drop 4)).2.1.toNat))).1, 0, b.drop (4 + (vget (b.drop 4)).2.1.toNat + (vget (b.drop 4)).1.toNat + 4), 0)
/-- A reader in memory. -/
def Rdr (w : World) (rb g lo : Nat) (b : List Int) (why : Int) : Prop := ∃ v, Blk w rb 55 #[v, .int .i64 why, .pointer (some (At g 0))] ∧ OwnI 5 .u8 lo w v b ∧ Bs b ∧ Sum w g ∧ rb ≠ g ∧ g < w.heap.size
theorem Rdr.fx {w w' : World} {rb g lo : Nat} {b : List Int} {why : Int} {m : Nat → Prop} (h : Rdr w rb g lo b why) (f : Fx m w w') (h1 : ¬ m rb) (h2 : ¬ m g) (h3 : ∀ k, lo ≤ k → k < w.heap.size → ¬ m k) : Rdr w' rb g lo b why := by
  obtain ⟨v, hb, ho, hbs, hs, hn, hl⟩ := h
  exact ⟨v, f.blk hb h1, ho.fx f (fun k hk => h3 k (ho.lt hk).1 (ho.lt hk).2), hbs, hs.fx f h2, hn, by have := f.size; omega⟩
theorem ffail_calls {w : World} {rb g : Nat} {u : Value} {y e : Int} (hb : Blk w rb 55 #[u, .int .i64 y, .pointer (some (At g 0))]) :
    callK Try.prog 18 #[.pointer (some (At rb 0)), .int .i64 e] w fun v w' => v = .tuple #[.agg #[.int .u8 0, .int .u32 0, .int .u32 0, .int .u64 0, .int .u8 0, .int .u32 0, .string ⟨#[]⟩, .string ⟨#[]⟩, .int .u8 0, .int .u8 0, .bool false, .int .u8 0, .int .u16 0, .slice none 0 0, .int .u32 0, .slice none 0 0, .int .u16 0, .int .u16 0, .slice none 0 0, .slice none 0 0, .slice none 0 0, .int .u32 0, .int .u32 0, .slice none 0 0, .int .u64 0, .slice none 0 0, .slice none 0 0, .slice none 0 0], .int .i64 e] ∧ Blk w' rb 55 #[.slice none 0 0, .int .i64 e, .pointer (some (At g 0))] ∧ Fx (only rb) w w' := by
  refine callK_of Try.func18 c18 r18 (by exact Nat.le_of_ble_eq_true rfl) ?_
  rw [m18]
  have hr : Blk _ _ _ _ := Blk.new w 42 #[.int .u8 0, .int .u32 0, .int .u32 0, .int .u64 0, .int .u8 0, .int .u32 0, .string ⟨#[]⟩, .string ⟨#[]⟩, .int .u8 0, .int .u8 0, .bool false, .int .u8 0, .int .u16 0, .slice none 0 0, .int .u32 0, .slice none 0 0, .int .u16 0, .int .u16 0, .slice none 0 0, .slice none 0 0, .slice none 0 0, .int .u32 0, .int .u32 0, .slice none 0 0, .int .u64 0, .slice none 0 0, .slice none 0 0, .slice none 0 0]
  have kA : Keep w (w.alloc (.cells #[.int .u8 0, .int .u32 0, .int .u32 0, .int .u64 0, .int .u8 0, .int .u32 0, .string ⟨#[]⟩, .string ⟨#[]⟩, .int .u8 0, .int .u8 0, .bool false, .int .u8 0, .int .u16 0, .slice none 0 0, .int .u32 0, .slice none 0 0, .int .u16 0, .int .u16 0, .slice none 0 0, .slice none 0 0, .slice none 0 0, .int .u32 0, .int .u32 0, .slice none 0 0, .int .u64 0, .slice none 0 0, .slice none 0 0, .slice none 0 0] 42)) := Fx.alloc _ w _
  have hb1 := kA.blk hb (fun x => x)
  have hlt := hb.lt
  simp -implicitDefEqProofs only [go_sem, seval, hb1.cell, hb1.frozen]
  generalize w.alloc (.cells #[.int .u8 0, .int .u32 0, .int .u32 0, .int .u64 0, .int .u8 0, .int .u32 0, .string ⟨#[]⟩, .string ⟨#[]⟩, .int .u8 0, .int .u8 0, .bool false, .int .u8 0, .int .u16 0, .slice none 0 0, .int .u32 0, .slice none 0 0, .int .u16 0, .int .u16 0, .slice none 0 0, .slice none 0 0, .slice none 0 0, .int .u32 0, .int .u32 0, .slice none 0 0, .int .u64 0, .slice none 0 0, .slice none 0 0, .slice none 0 0] 42) = w1 at *
  have hb2 := hb1.set 1 (.int .i64 e)
  simp only [List.setIfInBounds_toArray, List.set_cons_succ, List.set_cons_zero] at hb2
  have F2 : Fx (only rb) w1 (w1.setCell (At rb 1) (.int .i64 e)) := Fx.set _ _ _ rfl
  generalize w1.setCell (At rb 1) (.int .i64 e) = w2 at *
  simp -implicitDefEqProofs only [go_sem, seval, hb2.cell, hb2.frozen]
  have hb3 := hb2.set 0 (.slice none 0 0)
  simp only [List.setIfInBounds_toArray, List.set_cons_succ, List.set_cons_zero] at hb3
  have F3 : Fx (only rb) w2 (w2.setCell (At rb 0) (.slice none 0 0)) := Fx.set _ _ _ rfl
  generalize w2.setCell (At rb 0) (.slice none 0 0) = w3 at *
  have hr3 := (F2.tr F3).blk hr (fun e => by have : w.heap.size = rb := e; omega)
  have S0 := stB (P := Try.prog) (o := 0) sz42 hr3 (by decide)
  have L0 := ldP (P := Try.prog) sh42 hr3 rfl
  simp -implicitDefEqProofs only [go_sem, seval, S0, L0]
  have FP : Fx (only w.heap.size) w3 (putW w3 w.heap.size 0 [.int .u8 0, .int .u32 0, .int .u32 0, .int .u64 0, .int .u8 0, .int .u32 0, .string ⟨#[]⟩, .string ⟨#[]⟩, .int .u8 0, .int .u8 0, .bool false, .int .u8 0, .int .u16 0, .slice none 0 0, .int .u32 0, .slice none 0 0, .int .u16 0, .int .u16 0, .slice none 0 0, .slice none 0 0, .slice none 0 0, .int .u32 0, .int .u32 0, .slice none 0 0, .int .u64 0, .slice none 0 0, .slice none 0 0, .slice none 0 0]) := Fx.put _ _ _ _ rfl
  exact ⟨by first | rfl | trivial, FP.blk hb3 (fun e => by have : rb = w.heap.size := e; omega), ((kA.fx (only rb)).tr (F2.tr F3)).new FP (fun k e hk => by have : k = w.heap.size := e; omega)⟩
theorem store_cells {w : World} {cs : List Value} (hcl : cs.length = 28) (h1 : allOne cs = true) : ∃ w2, stV Try.prog (w.alloc (.cells #[.int .u8 0, .int .u32 0, .int .u32 0, .int .u64 0, .int .u8 0, .int .u32 0, .string ⟨#[]⟩, .string ⟨#[]⟩, .int .u8 0, .int .u8 0, .bool false, .int .u8 0, .int .u16 0, .slice none 0 0, .int .u32 0, .slice none 0 0, .int .u16 0, .int .u16 0, .slice none 0 0, .slice none 0 0, .slice none 0 0, .int .u32 0, .int .u32 0, .slice none 0 0, .int .u64 0, .slice none 0 0, .slice none 0 0, .slice none 0 0] 42)) 42 (.pointer (some (At w.heap.size 0))) (.agg (List.toArray cs)) = some w2 ∧
    Blk w2 w.heap.size 42 cs.toArray ∧ Keep w w2 ∧ w2.heap.size = w.heap.size + 1 := by
  have hb : Blk _ _ _ _ := Blk.new w 42 #[.int .u8 0, .int .u32 0, .int .u32 0, .int .u64 0, .int .u8 0, .int .u32 0, .string ⟨#[]⟩, .string ⟨#[]⟩, .int .u8 0, .int .u8 0, .bool false, .int .u8 0, .int .u16 0, .slice none 0 0, .int .u32 0, .slice none 0 0, .int .u16 0, .int .u16 0, .slice none 0 0, .slice none 0 0, .slice none 0 0, .int .u32 0, .int .u32 0, .slice none 0 0, .int .u64 0, .slice none 0 0, .slice none 0 0, .slice none 0 0]
  have S0 := stB (P := Try.prog) (o := 0) sz42 hb (by decide) cs hcl h1
  have hb2 := hb.put 0 cs
  rw [putC_all (by simp [hcl])] at hb2
  exact ⟨_, S0, hb2, (Fx.alloc (fun _ => False) w _).new (Fx.put (m := only w.heap.size) _ _ _ _ rfl) (fun k e hk => by have : k = w.heap.size := e; omega), by rw [size_put, size_alloc]⟩
theorem store_cells2 {w : World} {xb : Nat} {cs : List Value} (hb : Blk w xb 42 #[.int .u8 0, .int .u32 0, .int .u32 0, .int .u64 0, .int .u8 0, .int .u32 0, .string ⟨#[]⟩, .string ⟨#[]⟩, .int .u8 0, .int .u8 0, .bool false, .int .u8 0, .int .u16 0, .slice none 0 0, .int .u32 0, .slice none 0 0, .int .u16 0, .int .u16 0, .slice none 0 0, .slice none 0 0, .slice none 0 0, .int .u32 0, .int .u32 0, .slice none 0 0, .int .u64 0, .slice none 0 0, .slice none 0 0, .slice none 0 0]) (hcl : cs.length = 28) (h1 : allOne cs = true) : ∃ w2, stV Try.prog w 42 (.pointer (some (At xb 0))) (.agg (List.toArray cs)) = some w2 ∧
    Blk w2 xb 42 cs.toArray ∧ Fx (only xb) w w2 := by
  have S0 := stB (P := Try.prog) (o := 0) sz42 hb (by decide) cs hcl h1
  have hb2 := hb.put 0 cs
  rw [putC_all (by simp [hcl])] at hb2
  exact ⟨_, S0, hb2, Fx.put _ _ _ _ rfl⟩
@[go_sem] theorem slvlhB (A : Option Addr) (n c : Nat) (kk k2 : IntKind) (l h : Int) (h0 : 0 ≤ l) (h1 : l ≤ h) (hc : h ≤ c) : slcV Try.prog 26 (.slice A n c) (some (.int kk l)) (some (.int k2 h)) none = some (.slice (cutA A l.toNat c 1) (h.toNat - l.toNat) (c - l.toNat)) := slcV_lh A n c kk k2 l h Try.underlying26 sz5 h0 h1 hc
@[go_sem] theorem slklhB (A : Option Addr) (n c : Nat) (kk k2 : IntKind) (l h : Int) (w : World) (k : Value → World → Prop) (h0 : 0 ≤ l) (h1 : l ≤ h) (hc : h ≤ c) : slcK Try.prog 26 (.slice A n c) (some (.int kk l)) (some (.int k2 h)) none w k = k (.slice (cutA A l.toNat c 1) (h.toNat - l.toNat) (c - l.toNat)) w := slcK_eq (slvlhB A n c kk k2 l h h0 h1 hc)
theorem own_at {e : TypeId} {kd : IntKind} {b : Nat} {w : World} {A : Option Addr} {n c : Nat} {xs : List Int} (h : OwnI e kd b w (.slice A n c) xs) (hi : 0 < xs.length) :
    ∃ g, A = some (At g 0) ∧ ∀ i (hi : i < xs.length), w.cell? (At g i) = some (.int kd xs[i]) := by
  have hcell := fun g => World.ownsRow.cells h (g := g)
  rcases h.2 with ⟨hv, hn⟩ | ⟨g, cap, cur, hv, hb, hg, hc, hm, hs, ht⟩
  · omega
  · injection hv with h1 h2 h3
    refine ⟨g, h1, fun i hi => ?_⟩
    have := hcell g (by rw [h1]; rfl) i (.int kd xs[i]) (by rw [List.getElem?_map, List.getElem?_eq_getElem hi]; rfl)
    rwa [at_add, Nat.zero_add] at this
def stepF (b : List Int) (why : Int) : Msg × Int × List Int × Int := if why = 0 then nextF b else (zMsg 0, why, b, why)
set_option maxHeartbeats 3200000 in
theorem next_calls {w : World} {rb g lo : Nat} {b : List Int} {why : Int} (hR : Rdr w rb g lo b why) (hlo : lo ≤ w.heap.size) (hlen : b.length ≤ 1000000000) :
    callK Try.prog 9 #[.pointer (some (At rb 0))] w fun v w' => ∃ cs, v = .tuple #[.agg (List.toArray cs), .int .i64 (stepF b why).2.1] ∧ kMsg.rep (fun k => w.heap.size ≤ k) w' (stepF b why).1 cs ∧ Rdr w' rb g lo (stepF b why).2.2.1 (stepF b why).2.2.2 ∧ Fx (fun k => k = rb ∨ k = g) w w' := by
  refine callK_of Try.func9 c9 r9 (by exact Nat.le_of_ble_eq_true rfl) ?_
  rw [m9]
  have hr : Blk _ _ _ _ := Blk.new w 42 #[.int .u8 0, .int .u32 0, .int .u32 0, .int .u64 0, .int .u8 0, .int .u32 0, .string ⟨#[]⟩, .string ⟨#[]⟩, .int .u8 0, .int .u8 0, .bool false, .int .u8 0, .int .u16 0, .slice none 0 0, .int .u32 0, .slice none 0 0, .int .u16 0, .int .u16 0, .slice none 0 0, .slice none 0 0, .slice none 0 0, .int .u32 0, .int .u32 0, .slice none 0 0, .int .u64 0, .slice none 0 0, .slice none 0 0, .slice none 0 0]
  have kA : Keep w (w.alloc (.cells #[.int .u8 0, .int .u32 0, .int .u32 0, .int .u64 0, .int .u8 0, .int .u32 0, .string ⟨#[]⟩, .string ⟨#[]⟩, .int .u8 0, .int .u8 0, .bool false, .int .u8 0, .int .u16 0, .slice none 0 0, .int .u32 0, .slice none 0 0, .int .u16 0, .int .u16 0, .slice none 0 0, .slice none 0 0, .slice none 0 0, .int .u32 0, .int .u32 0, .slice none 0 0, .int .u64 0, .slice none 0 0, .slice none 0 0, .slice none 0 0] 42)) := Fx.alloc _ w _
  have s1 := size_alloc w (.cells #[.int .u8 0, .int .u32 0, .int .u32 0, .int .u64 0, .int .u8 0, .int .u32 0, .string ⟨#[]⟩, .string ⟨#[]⟩, .int .u8 0, .int .u8 0, .bool false, .int .u8 0, .int .u16 0, .slice none 0 0, .int .u32 0, .slice none 0 0, .int .u16 0, .int .u16 0, .slice none 0 0, .slice none 0 0, .slice none 0 0, .int .u32 0, .int .u32 0, .slice none 0 0, .int .u64 0, .slice none 0 0, .slice none 0 0, .slice none 0 0] 42)
  have hR0 := hR
  have hR := hR.fx kA (fun h => h) (fun h => h) (fun _ _ _ h => h)
  obtain ⟨vb0, hbl0, _, _, _, hrg, hgl⟩ := id hR0
  have hrl := hbl0.lt
  obtain ⟨vb, hbl, ho, hbs, hS, _, _⟩ := id hR
  simp -implicitDefEqProofs only [go_sem, seval, hbl.cell]
  generalize w.alloc (.cells #[.int .u8 0, .int .u32 0, .int .u32 0, .int .u64 0, .int .u8 0, .int .u32 0, .string ⟨#[]⟩, .string ⟨#[]⟩, .int .u8 0, .int .u8 0, .bool false, .int .u8 0, .int .u16 0, .slice none 0 0, .int .u32 0, .slice none 0 0, .int .u16 0, .int .u16 0, .slice none 0 0, .slice none 0 0, .slice none 0 0, .int .u32 0, .int .u32 0, .slice none 0 0, .int .u64 0, .slice none 0 0, .slice none 0 0, .slice none 0 0] 42) = w1 at *
  obtain ⟨rr, hrr⟩ : ∃ rr, rr = w.heap.size := ⟨_, rfl⟩
  rw [← hrr] at hr s1 ⊢
  have S0 := stB (P := Try.prog) (o := 0) sz42 hr (by decide)
  -- what is told with an error that is not a fail
  have zend : ∀ {wz : World} {e : Int}, Blk wz rr 42 #[.int .u8 0, .int .u32 0, .int .u32 0, .int .u64 0, .int .u8 0, .int .u32 0, .string ⟨#[]⟩, .string ⟨#[]⟩, .int .u8 0, .int .u8 0, .bool false, .int .u8 0, .int .u16 0, .slice none 0 0, .int .u32 0, .slice none 0 0, .int .u16 0, .int .u16 0, .slice none 0 0, .slice none 0 0, .slice none 0 0, .int .u32 0, .int .u32 0, .slice none 0 0, .int .u64 0, .slice none 0 0, .slice none 0 0, .slice none 0 0] → Keep w wz → (stepF b why) = (zMsg 0, e, b, why) →
      ∃ w2, stV Try.prog wz 42 (.pointer (some (At rr 0))) (.agg #[.int .u8 0, .int .u32 0, .int .u32 0, .int .u64 0, .int .u8 0, .int .u32 0, .string ⟨#[]⟩, .string ⟨#[]⟩, .int .u8 0, .int .u8 0, .bool false, .int .u8 0, .int .u16 0, .slice none 0 0, .int .u32 0, .slice none 0 0, .int .u16 0, .int .u16 0, .slice none 0 0, .slice none 0 0, .slice none 0 0, .int .u32 0, .int .u32 0, .slice none 0 0, .int .u64 0, .slice none 0 0, .slice none 0 0, .slice none 0 0]) = some w2 ∧ ldV Try.prog w2 42 (.pointer (some (At rr 0))) = some (.agg #[.int .u8 0, .int .u32 0, .int .u32 0, .int .u64 0, .int .u8 0, .int .u32 0, .string ⟨#[]⟩, .string ⟨#[]⟩, .int .u8 0, .int .u8 0, .bool false, .int .u8 0, .int .u16 0, .slice none 0 0, .int .u32 0, .slice none 0 0, .int .u16 0, .int .u16 0, .slice none 0 0, .slice none 0 0, .slice none 0 0, .int .u32 0, .int .u32 0, .slice none 0 0, .int .u64 0, .slice none 0 0, .slice none 0 0, .slice none 0 0]) ∧
        ∃ cs, (.tuple #[.agg #[.int .u8 0, .int .u32 0, .int .u32 0, .int .u64 0, .int .u8 0, .int .u32 0, .string ⟨#[]⟩, .string ⟨#[]⟩, .int .u8 0, .int .u8 0, .bool false, .int .u8 0, .int .u16 0, .slice none 0 0, .int .u32 0, .slice none 0 0, .int .u16 0, .int .u16 0, .slice none 0 0, .slice none 0 0, .slice none 0 0, .int .u32 0, .int .u32 0, .slice none 0 0, .int .u64 0, .slice none 0 0, .slice none 0 0, .slice none 0 0], .int .i64 e] : Value) = .tuple #[.agg (List.toArray cs), .int .i64 (stepF b why).2.1] ∧ kMsg.rep (fun k => rr ≤ k) w2 (stepF b why).1 cs ∧ Rdr w2 rb g lo (stepF b why).2.2.1 (stepF b why).2.2.2 ∧ Fx (fun k => k = rb ∨ k = g) w w2 := by
    intro wz e hz kz he
    have FP : Fx (only rr) wz (putW wz rr 0 [.int .u8 0, .int .u32 0, .int .u32 0, .int .u64 0, .int .u8 0, .int .u32 0, .string ⟨#[]⟩, .string ⟨#[]⟩, .int .u8 0, .int .u8 0, .bool false, .int .u8 0, .int .u16 0, .slice none 0 0, .int .u32 0, .slice none 0 0, .int .u16 0, .int .u16 0, .slice none 0 0, .slice none 0 0, .slice none 0 0, .int .u32 0, .int .u32 0, .slice none 0 0, .int .u64 0, .slice none 0 0, .slice none 0 0, .slice none 0 0]) := Fx.put _ _ _ _ rfl
    have kz2 : Keep w (putW wz rr 0 [.int .u8 0, .int .u32 0, .int .u32 0, .int .u64 0, .int .u8 0, .int .u32 0, .string ⟨#[]⟩, .string ⟨#[]⟩, .int .u8 0, .int .u8 0, .bool false, .int .u8 0, .int .u16 0, .slice none 0 0, .int .u32 0, .slice none 0 0, .int .u16 0, .int .u16 0, .slice none 0 0, .slice none 0 0, .slice none 0 0, .int .u32 0, .int .u32 0, .slice none 0 0, .int .u64 0, .slice none 0 0, .slice none 0 0, .slice none 0 0]) := kz.new FP (fun k e hk => by have : k = rr := e; omega)
    refine ⟨putW wz rr 0 [.int .u8 0, .int .u32 0, .int .u32 0, .int .u64 0, .int .u8 0, .int .u32 0, .string ⟨#[]⟩, .string ⟨#[]⟩, .int .u8 0, .int .u8 0, .bool false, .int .u8 0, .int .u16 0, .slice none 0 0, .int .u32 0, .slice none 0 0, .int .u16 0, .int .u16 0, .slice none 0 0, .slice none 0 0, .slice none 0 0, .int .u32 0, .int .u32 0, .slice none 0 0, .int .u64 0, .slice none 0 0, .slice none 0 0, .slice none 0 0], stB (P := Try.prog) (o := 0) sz42 hz (by decide) [.int .u8 0, .int .u32 0, .int .u32 0, .int .u64 0, .int .u8 0, .int .u32 0, .string ⟨#[]⟩, .string ⟨#[]⟩, .int .u8 0, .int .u8 0, .bool false, .int .u8 0, .int .u16 0, .slice none 0 0, .int .u32 0, .slice none 0 0, .int .u16 0, .int .u16 0, .slice none 0 0, .slice none 0 0, .slice none 0 0, .int .u32 0, .int .u32 0, .slice none 0 0, .int .u64 0, .slice none 0 0, .slice none 0 0, .slice none 0 0] rfl rfl, ldP (P := Try.prog) sh42 hz rfl [.int .u8 0, .int .u32 0, .int .u32 0, .int .u64 0, .int .u8 0, .int .u32 0, .string ⟨#[]⟩, .string ⟨#[]⟩, .int .u8 0, .int .u8 0, .bool false, .int .u8 0, .int .u16 0, .slice none 0 0, .int .u32 0, .slice none 0 0, .int .u16 0, .int .u16 0, .slice none 0 0, .slice none 0 0, .slice none 0 0, .int .u32 0, .int .u32 0, .slice none 0 0, .int .u64 0, .slice none 0 0, .slice none 0 0, .slice none 0 0] rfl, [.int .u8 0, .int .u32 0, .int .u32 0, .int .u64 0, .int .u8 0, .int .u32 0, .string ⟨#[]⟩, .string ⟨#[]⟩, .int .u8 0, .int .u8 0, .bool false, .int .u8 0, .int .u16 0, .slice none 0 0, .int .u32 0, .slice none 0 0, .int .u16 0, .int .u16 0, .slice none 0 0, .slice none 0 0, .slice none 0 0, .int .u32 0, .int .u32 0, .slice none 0 0, .int .u64 0, .slice none 0 0, .slice none 0 0, .slice none 0 0], ?_, ?_, ?_, kz2.fx _⟩
    · rw [he]
    · rw [he]; exact zMsg_rep (k := 0) (by decide) (by decide)
    · rw [he]; exact hR0.fx kz2 (fun h => h) (fun h => h) (fun _ _ _ h => h)
  by_cases hw : why = 0
  · subst hw
    have hst : stepF b 0 = nextF b := by unfold stepF; rw [if_pos rfl]
    obtain ⟨A, c, rfl, hc, hr1⟩ := ho.slice
    obtain ⟨hcm, he⟩ := elems_own ho hbs
    simp only [maxLen] at hcm
    have hs1g := hgl
    have fend : ∀ {wz w2 : World} {e : Int}, Fx (fun k => k = rb ∨ k = g) w wz → Blk wz rr 42 #[.int .u8 0, .int .u32 0, .int .u32 0, .int .u64 0, .int .u8 0, .int .u32 0, .string ⟨#[]⟩, .string ⟨#[]⟩, .int .u8 0, .int .u8 0, .bool false, .int .u8 0, .int .u16 0, .slice none 0 0, .int .u32 0, .slice none 0 0, .int .u16 0, .int .u16 0, .slice none 0 0, .slice none 0 0, .slice none 0 0, .int .u32 0, .int .u32 0, .slice none 0 0, .int .u64 0, .slice none 0 0, .slice none 0 0, .slice none 0 0] → Blk w2 rb 55 #[.slice none 0 0, .int .i64 e, .pointer (some (At g 0))] → Fx (only rb) wz w2 → Sum wz g → stepF b 0 = failF e →
        ∃ w3, stV Try.prog w2 42 (.pointer (some (At rr 0))) (.agg #[.int .u8 0, .int .u32 0, .int .u32 0, .int .u64 0, .int .u8 0, .int .u32 0, .string ⟨#[]⟩, .string ⟨#[]⟩, .int .u8 0, .int .u8 0, .bool false, .int .u8 0, .int .u16 0, .slice none 0 0, .int .u32 0, .slice none 0 0, .int .u16 0, .int .u16 0, .slice none 0 0, .slice none 0 0, .slice none 0 0, .int .u32 0, .int .u32 0, .slice none 0 0, .int .u64 0, .slice none 0 0, .slice none 0 0, .slice none 0 0]) = some w3 ∧ ldV Try.prog w3 42 (.pointer (some (At rr 0))) = some (.agg #[.int .u8 0, .int .u32 0, .int .u32 0, .int .u64 0, .int .u8 0, .int .u32 0, .string ⟨#[]⟩, .string ⟨#[]⟩, .int .u8 0, .int .u8 0, .bool false, .int .u8 0, .int .u16 0, .slice none 0 0, .int .u32 0, .slice none 0 0, .int .u16 0, .int .u16 0, .slice none 0 0, .slice none 0 0, .slice none 0 0, .int .u32 0, .int .u32 0, .slice none 0 0, .int .u64 0, .slice none 0 0, .slice none 0 0, .slice none 0 0]) ∧
          ∃ cs, (.tuple #[.agg #[.int .u8 0, .int .u32 0, .int .u32 0, .int .u64 0, .int .u8 0, .int .u32 0, .string ⟨#[]⟩, .string ⟨#[]⟩, .int .u8 0, .int .u8 0, .bool false, .int .u8 0, .int .u16 0, .slice none 0 0, .int .u32 0, .slice none 0 0, .int .u16 0, .int .u16 0, .slice none 0 0, .slice none 0 0, .slice none 0 0, .int .u32 0, .int .u32 0, .slice none 0 0, .int .u64 0, .slice none 0 0, .slice none 0 0, .slice none 0 0], .int .i64 e] : Value) = .tuple #[.agg (List.toArray cs), .int .i64 (stepF b 0).2.1] ∧ kMsg.rep (fun k => rr ≤ k) w3 (stepF b 0).1 cs ∧ Rdr w3 rb g lo (stepF b 0).2.2.1 (stepF b 0).2.2.2 ∧ Fx (fun k => k = rb ∨ k = g) w w3 := by
      intro wz w2 e kz hz hb2 f2 hs hq
      have hz2 := f2.blk hz (fun e => by have : rr = rb := e; omega)
      have FP : Fx (only rr) w2 (putW w2 rr 0 [.int .u8 0, .int .u32 0, .int .u32 0, .int .u64 0, .int .u8 0, .int .u32 0, .string ⟨#[]⟩, .string ⟨#[]⟩, .int .u8 0, .int .u8 0, .bool false, .int .u8 0, .int .u16 0, .slice none 0 0, .int .u32 0, .slice none 0 0, .int .u16 0, .int .u16 0, .slice none 0 0, .slice none 0 0, .slice none 0 0, .int .u32 0, .int .u32 0, .slice none 0 0, .int .u64 0, .slice none 0 0, .slice none 0 0, .slice none 0 0]) := Fx.put _ _ _ _ rfl
      refine ⟨putW w2 rr 0 [.int .u8 0, .int .u32 0, .int .u32 0, .int .u64 0, .int .u8 0, .int .u32 0, .string ⟨#[]⟩, .string ⟨#[]⟩, .int .u8 0, .int .u8 0, .bool false, .int .u8 0, .int .u16 0, .slice none 0 0, .int .u32 0, .slice none 0 0, .int .u16 0, .int .u16 0, .slice none 0 0, .slice none 0 0, .slice none 0 0, .int .u32 0, .int .u32 0, .slice none 0 0, .int .u64 0, .slice none 0 0, .slice none 0 0, .slice none 0 0], stB (P := Try.prog) (o := 0) sz42 hz2 (by decide) [.int .u8 0, .int .u32 0, .int .u32 0, .int .u64 0, .int .u8 0, .int .u32 0, .string ⟨#[]⟩, .string ⟨#[]⟩, .int .u8 0, .int .u8 0, .bool false, .int .u8 0, .int .u16 0, .slice none 0 0, .int .u32 0, .slice none 0 0, .int .u16 0, .int .u16 0, .slice none 0 0, .slice none 0 0, .slice none 0 0, .int .u32 0, .int .u32 0, .slice none 0 0, .int .u64 0, .slice none 0 0, .slice none 0 0, .slice none 0 0] rfl rfl, ldP (P := Try.prog) sh42 hz2 rfl [.int .u8 0, .int .u32 0, .int .u32 0, .int .u64 0, .int .u8 0, .int .u32 0, .string ⟨#[]⟩, .string ⟨#[]⟩, .int .u8 0, .int .u8 0, .bool false, .int .u8 0, .int .u16 0, .slice none 0 0, .int .u32 0, .slice none 0 0, .int .u16 0, .int .u16 0, .slice none 0 0, .slice none 0 0, .slice none 0 0, .int .u32 0, .int .u32 0, .slice none 0 0, .int .u64 0, .slice none 0 0, .slice none 0 0, .slice none 0 0] rfl, [.int .u8 0, .int .u32 0, .int .u32 0, .int .u64 0, .int .u8 0, .int .u32 0, .string ⟨#[]⟩, .string ⟨#[]⟩, .int .u8 0, .int .u8 0, .bool false, .int .u8 0, .int .u16 0, .slice none 0 0, .int .u32 0, .slice none 0 0, .int .u16 0, .int .u16 0, .slice none 0 0, .slice none 0 0, .slice none 0 0, .int .u32 0, .int .u32 0, .slice none 0 0, .int .u64 0, .slice none 0 0, .slice none 0 0, .slice none 0 0], ?_, ?_, ?_, ?_⟩
      · rw [hq]; rfl
      · rw [hq]; exact zMsg_rep (k := 0) (by decide) (by decide)
      · rw [hq]
        exact ⟨.slice none 0 0, FP.blk hb2 (fun e => by have : rb = rr := e; omega), OwnI.nil _ _ _ _, fun x hx => by simp [failF] at hx, (hs.fx f2 (fun e => hrg e.symm)).fx FP (fun e => by have : g = rr := e; omega), hrg, by have := kz.size; have := f2.size; have := FP.size; omega⟩
      · exact (kz.tr (f2.weaken fun k _ e => .inl e)).new FP (fun k e hk => by have : k = rr := e; omega)
    have z1 : ((0 : Int) != 0) = false := rfl
    simp -implicitDefEqProofs only [go_sem, seval, z1]
    have hb0 : (0 : Nat) ≤ b.length := Nat.zero_le _
    refine loop_intro (fun q f w' => ∃ i : Nat, q = 4 - i ∧ i ≤ 4 ∧ i ≤ b.length ∧ f 0 = .pointer (some (At rb 0)) ∧ f 2 = .pointer (some (At rr 0)) ∧ f 4 = .int .i64 i ∧ preN 4 0 b = preN (4 - i) i (b.drop i) ∧ w' = w1) 4
      ⟨0, rfl, by omega, hb0, by simp -implicitDefEqProofs only [go_sem, seval], by simp -implicitDefEqProofs only [go_sem, seval], by simp -implicitDefEqProofs only [go_sem, seval] <;> rfl, rfl, rfl⟩ ?_
    rintro q f w' ⟨i, rfl, hi, hib, g0, g2, g4, hpre, rfl⟩
    by_cases hlt : i < 4
    · have i1 : (i : Int) < 4 := by omega
      by_cases hbl2 : b.length ≤ i
      · have hd : b.drop i = [] := List.drop_of_length_le (by omega)
        have hp : preN 4 0 b = 40 := by
          rw [hpre, hd]
          obtain ⟨m, hm⟩ : ∃ m, 4 - i = m + 1 := ⟨3 - i, by omega⟩
          rw [hm]; rfl
        have hnx : stepF b 0 = (zMsg 0, 40, b, 0) := by rw [hst]; unfold nextF; rw [if_pos hp]; rfl
        have i2 : (b.length : Int) ≤ (i : Int) := by omega
        obtain ⟨w2, S2, L2, fin⟩ := zend hr kA hnx
        simp -implicitDefEqProofs only [go_sem, seval, g0, g2, g4, i1, hbl.cell, i2, S2, L2]
        exact fin
      · have i2 : ¬ (b.length : Int) ≤ (i : Int) := by omega
        have hd : b.drop i = b[i] :: b.drop (i + 1) := List.drop_eq_getElem_cons (by omega)
        obtain ⟨gb, rfl, hat⟩ := own_at ho (by omega)
        have hstep : preN 4 0 b = if at4 i b[i] = 0 then preN (4 - (i + 1)) (i + 1) (b.drop (i + 1)) else at4 i b[i] := by
          rw [hpre, hd]
          obtain ⟨m, hm⟩ : ∃ m, 4 - i = m + 1 := ⟨3 - i, by omega⟩
          have : 4 - (i + 1) = m := by omega
          rw [hm, this]; rfl
        have : i = 0 ∨ i = 1 ∨ i = 2 ∨ i = 3 := by omega
        rcases this with rfl | rfl | rfl | rfl
        · have g4' : f 4 = .int .i64 0 := g4
          have i2' : ¬ (b.length : Int) ≤ 0 := i2
          have i3' : (0 : Int) < (b.length : Int) := by omega
          have hcell := hat 0 (by omega)
          by_cases hx : b[0] = 76
          · have z : (b[0] != 76) = false := by simp [hx]
            have h0 : at4 0 b[0] = 0 := by simp [at4, hx]
            rw [if_pos h0] at hstep
            simp -implicitDefEqProofs only [go_sem, seval, g0, g2, g4', hbl.cell, Int.reduceBEq, i2', i3', hcell, z]
            exact ⟨3, by omega, 1, rfl, by omega, by omega, by simp -implicitDefEqProofs only [go_sem, seval, g0], by simp -implicitDefEqProofs only [go_sem, seval, g2], by simp -implicitDefEqProofs only [go_sem, seval] <;> rfl, hstep, rfl⟩
          · have z : (b[0] != 76) = true := by simp [hx]
            have h0 : at4 0 b[0] = 70 := by simp [at4, hx]
            rw [h0, if_neg (by decide)] at hstep
            simp -implicitDefEqProofs only [go_sem, seval, g0, g2, g4', hbl.cell, Int.reduceBEq, i2', i3', hcell, z]
            refine (ffail_calls hbl).mono ?_
            rintro v w2 ⟨rfl, hb2, f2⟩
            obtain ⟨w3, S3, L3, fin⟩ := fend (kA.fx _) hr hb2 f2 hS (e := 70) (by rw [hst]; unfold nextF; rw [hstep]; rfl)
            simp -implicitDefEqProofs only [go_sem, seval, g0, g2, S3, L3]
            exact fin
        · have g4' : f 4 = .int .i64 1 := g4
          have i2' : ¬ (b.length : Int) ≤ 1 := i2
          have i3' : (1 : Int) < (b.length : Int) := by omega
          have hcell := hat 1 (by omega)
          by_cases hx : b[1] = 68
          · have z : (b[1] != 68) = false := by simp [hx]
            have h0 : at4 1 b[1] = 0 := by simp [at4, hx]
            rw [if_pos h0] at hstep
            simp -implicitDefEqProofs only [go_sem, seval, g0, g2, g4', hbl.cell, Int.reduceBEq, i2', i3', hcell, z]
            exact ⟨2, by omega, 2, rfl, by omega, by omega, by simp -implicitDefEqProofs only [go_sem, seval, g0], by simp -implicitDefEqProofs only [go_sem, seval, g2], by simp -implicitDefEqProofs only [go_sem, seval] <;> rfl, hstep, rfl⟩
          · have z : (b[1] != 68) = true := by simp [hx]
            have h0 : at4 1 b[1] = 70 := by simp [at4, hx]
            rw [h0, if_neg (by decide)] at hstep
            simp -implicitDefEqProofs only [go_sem, seval, g0, g2, g4', hbl.cell, Int.reduceBEq, i2', i3', hcell, z]
            refine (ffail_calls hbl).mono ?_
            rintro v w2 ⟨rfl, hb2, f2⟩
            obtain ⟨w3, S3, L3, fin⟩ := fend (kA.fx _) hr hb2 f2 hS (e := 70) (by rw [hst]; unfold nextF; rw [hstep]; rfl)
            simp -implicitDefEqProofs only [go_sem, seval, g0, g2, S3, L3]
            exact fin
        · have g4' : f 4 = .int .i64 2 := g4
          have i2' : ¬ (b.length : Int) ≤ 2 := i2
          have i3' : (2 : Int) < (b.length : Int) := by omega
          have hcell := hat 2 (by omega)
          by_cases hx : b[2] = 1
          · have z : (b[2] != 1) = false := by simp [hx]
            have h0 : at4 2 b[2] = 0 := by simp [at4, hx]
            rw [if_pos h0] at hstep
            simp -implicitDefEqProofs only [go_sem, seval, g0, g2, g4', hbl.cell, Int.reduceBEq, i2', i3', hcell, z]
            exact ⟨1, by omega, 3, rfl, by omega, by omega, by simp -implicitDefEqProofs only [go_sem, seval, g0], by simp -implicitDefEqProofs only [go_sem, seval, g2], by simp -implicitDefEqProofs only [go_sem, seval] <;> rfl, hstep, rfl⟩
          · have z : (b[2] != 1) = true := by simp [hx]
            have h0 : at4 2 b[2] = 71 := by simp [at4, hx]
            rw [h0, if_neg (by decide)] at hstep
            simp -implicitDefEqProofs only [go_sem, seval, g0, g2, g4', hbl.cell, Int.reduceBEq, i2', i3', hcell, z]
            refine (ffail_calls hbl).mono ?_
            rintro v w2 ⟨rfl, hb2, f2⟩
            obtain ⟨w3, S3, L3, fin⟩ := fend (kA.fx _) hr hb2 f2 hS (e := 71) (by rw [hst]; unfold nextF; rw [hstep]; rfl)
            simp -implicitDefEqProofs only [go_sem, seval, g0, g2, S3, L3]
            exact fin
        · have g4' : f 4 = .int .i64 3 := g4
          have i2' : ¬ (b.length : Int) ≤ 3 := i2
          have i3' : (3 : Int) < (b.length : Int) := by omega
          have hcell := hat 3 (by omega)
          by_cases hx : 1 ≤ b[3] ∧ b[3] ≤ 24
          · have z : ¬ b[3] < 1 := by omega
            have z' : ¬ (24 : Int) < b[3] := by omega
            have h0 : at4 3 b[3] = 0 := by simp [at4]; omega
            rw [if_pos h0] at hstep
            simp -implicitDefEqProofs only [go_sem, seval, g0, g2, g4', hbl.cell, Int.reduceBEq, i2', i3', hcell, z, z']
            exact ⟨0, by omega, 4, rfl, by omega, by omega, by simp -implicitDefEqProofs only [go_sem, seval, g0], by simp -implicitDefEqProofs only [go_sem, seval, g2], by simp -implicitDefEqProofs only [go_sem, seval] <;> rfl, hstep, rfl⟩
          · have h0 : at4 3 b[3] = 61 := by simp [at4]; omega
            rw [h0, if_neg (by decide)] at hstep
            have both : ∀ (K : Prop), (b[3] < 1 → K) → (¬ b[3] < 1 → (24 : Int) < b[3] → K) → K := fun K a1 a2 => by
              by_cases h : b[3] < 1
              · exact a1 h
              · exact a2 h (by omega)
            refine both _ (fun z => ?_) (fun z z' => ?_)
            · simp -implicitDefEqProofs only [go_sem, seval, g0, g2, g4', hbl.cell, Int.reduceBEq, i2', i3', hcell, z]
              refine (ffail_calls hbl).mono ?_
              rintro v w2 ⟨rfl, hb2, f2⟩
              obtain ⟨w3, S3, L3, fin⟩ := fend (kA.fx _) hr hb2 f2 hS (e := 61) (by rw [hst]; unfold nextF; rw [hstep]; rfl)
              simp -implicitDefEqProofs only [go_sem, seval, g0, g2, S3, L3]
              exact fin
            · simp -implicitDefEqProofs only [go_sem, seval, g0, g2, g4', hbl.cell, Int.reduceBEq, i2', i3', hcell, z, z']
              refine (ffail_calls hbl).mono ?_
              rintro v w2 ⟨rfl, hb2, f2⟩
              obtain ⟨w3, S3, L3, fin⟩ := fend (kA.fx _) hr hb2 f2 hS (e := 61) (by rw [hst]; unfold nextF; rw [hstep]; rfl)
              simp -implicitDefEqProofs only [go_sem, seval, g0, g2, S3, L3]
              exact fin
    · have hi4 : i = 4 := by omega
      subst hi4
      have i1 : ¬ ((4 : Nat) : Int) < 4 := by omega
      have g4' : f 4 = .int .i64 4 := g4
      have hp0 : preN 4 0 b = 0 := hpre
      have i1' : ¬ (4 : Int) < 4 := by omega
      have u1 : 4 ≤ b.length := hib
      have u1' : (4 : Int) ≤ (b.length : Int) := by omega
      simp -implicitDefEqProofs only [go_sem, seval, g0, g2, g4', hbl.cell, u1, u1', hc]
      have hr4 := hr1.cut 4 c hc
      have hl4 : (b.drop 4).length = b.length - 4 := List.length_drop ..
      rw [← hl4]
      refine (get_calls hr4 (hbs.drop 4) (by omega)).mono ?_
      rintro v w2 ⟨rfl, rfl⟩
      have hnf : stepF b 0 = if (vget (b.drop 4)).2.2 = 41 then failF 41 else if (vget (b.drop 4)).2.2 ≠ 0 then moreF b else
          if 4096 < (vget (b.drop 4)).1 then failF 72 else
          if b.length < 4 + (vget (b.drop 4)).2.1.toNat + (vget (b.drop 4)).1.toNat + 4 then moreF b else
          if sum4 (crcI (b.take (4 + (vget (b.drop 4)).2.1.toNat + (vget (b.drop 4)).1.toNat))) ≠ (b.drop (4 + (vget (b.drop 4)).2.1.toNat + (vget (b.drop 4)).1.toNat)).take 4 then failF 73 else
          if (getMsg (b[3]?.getD 0) ((b.take (4 + (vget (b.drop 4)).2.1.toNat + (vget (b.drop 4)).1.toNat)).drop (4 + (vget (b.drop 4)).2.1.toNat))).2 ≠ 0 then failF (getMsg (b[3]?.getD 0) ((b.take (4 + (vget (b.drop 4)).2.1.toNat + (vget (b.drop 4)).1.toNat)).drop (4 + (vget (b.drop 4)).2.1.toNat))).2 else
          ((getMsg (b[3]?.getD 0) ((b.take (4 + (vget (b.drop 4)).2.1.toNat + (vget (b.drop 4)).1.toNat)).drop (4 + (vget (b.drop 4)).2.1.toNat))).1, 0, b.drop (4 + (vget (b.drop 4)).2.1.toNat + (vget (b.drop 4)).1.toNat + 4), 0) := by
        rw [hst]
        unfold nextF
        rw [if_neg (by rw [hp0]; decide), if_neg (by rw [hp0]; simp)]
      obtain ⟨n, hn, en⟩ := vget_range (hbs.drop 4)
      have hus : (vget (b.drop 4)).2.2 = 0 → 0 ≤ (vget (b.drop 4)).2.1 ∧ (vget (b.drop 4)).2.1 ≤ ((b.drop 4).length : Int) := fun h => vget_used (hbs.drop 4) h
      generalize vget (b.drop 4) = V at *
      obtain ⟨V1, V2, V3⟩ := V
      simp only at en hus hnf
      subst en
      by_cases h41 : V3 = 41
      · subst h41
        have z : ((41 : Int) == 41) = true := rfl
        simp -implicitDefEqProofs only [go_sem, seval, getV, z, g0, g2]
        refine (ffail_calls hbl).mono ?_
        rintro v w2 ⟨rfl, hb2, f2⟩
        obtain ⟨w3, S3, L3, fin⟩ := fend (kA.fx _) hr hb2 f2 hS (e := 41) (by rw [hnf, if_pos rfl])
        simp -implicitDefEqProofs only [go_sem, seval, g0, g2, S3, L3]
        exact fin
      have z41 : (V3 == 41) = false := by rw [beq_eq_false_iff_ne]; exact h41
      rw [if_neg h41] at hnf
      by_cases h0 : V3 = 0
      case neg =>
        have z : (V3 != 0) = true := by rw [bne_iff_ne]; exact h0
        rw [if_pos h0] at hnf
        obtain ⟨w2, S2, L2, fin⟩ := zend hr kA (hnf.trans rfl)
        simp -implicitDefEqProofs only [go_sem, seval, getV, z41, z, g0, g2, S2, L2]
        exact fin
      subst h0
      obtain ⟨u0, u2⟩ := hus rfl
      obtain ⟨u, rfl⟩ := Int.eq_ofNat_of_zero_le u0
      have u3 : u + 4 ≤ b.length := by
        have : ((u : Nat) : Int) ≤ ((b.drop 4).length : Int) := u2
        omega
      have z : ((0 : Int) != 0) = false := rfl
      rw [if_neg (by decide)] at hnf
      by_cases hbig : (4096 : Int) < (n : Int)
      · rw [if_pos hbig] at hnf
        simp -implicitDefEqProofs only [go_sem, seval, getV, z41, z, hbig, g0, g2]
        refine (ffail_calls hbl).mono ?_
        rintro v w2 ⟨rfl, hb2, f2⟩
        obtain ⟨w3, S3, L3, fin⟩ := fend (kA.fx _) hr hb2 f2 hS (e := 72) hnf
        simp -implicitDefEqProofs only [go_sem, seval, g0, g2, S3, L3]
        exact fin
      rw [if_neg hbig] at hnf
      rw [Int.toNat_natCast, Int.toNat_natCast] at hnf
      obtain ⟨to, hto⟩ : ∃ to, to = 4 + u + n := ⟨_, rfl⟩
      rw [← hto] at hnf
      have e1 : IntKind.i64.wrap (4 + (u : Int)) = ((4 + u : Nat) : Int) := i64_nat (by omega) (by omega)
      have e2 : IntKind.i64.wrap (n : Int) = (n : Int) := i64_nat (by omega) (by omega)
      have e3 : IntKind.i64.wrap (((4 + u : Nat) : Int) + (n : Int)) = (to : Int) := by rw [i64_nat (by omega) (by omega)]; omega
      have e4 : IntKind.i64.wrap ((to : Int) + 4) = ((to + 4 : Nat) : Int) := i64_nat (by omega) (by omega)
      by_cases hshort : b.length < to + 4
      · rw [if_pos hshort] at hnf
        have zs : (b.length : Int) < ((to + 4 : Nat) : Int) := by omega
        obtain ⟨w2, S2, L2, fin⟩ := zend hr kA (hnf.trans rfl)
        simp -implicitDefEqProofs only [go_sem, seval, getV, z41, z, hbig, e1, e2, e3, e4, zs, hbl.cell, g0, g2, S2, L2]
        exact fin
      rw [if_neg hshort] at hnf
      have zs : ¬ (b.length : Int) < ((to + 4 : Nat) : Int) := by omega
      simp -implicitDefEqProofs only [go_sem, seval, getV, z41, z, hbig, e1, e2, e3, e4, zs, hbl.cell, g0, g2]
      have ht1 : to ≤ b.length := by omega
      have ht2 : (to : Int) ≤ (b.length : Int) := by omega
      have ht0 : (0 : Int) ≤ (to : Int) := by omega
      have ht3 : to ≤ c := by omega
      have ht4 : (to : Int) ≤ (c : Int) := by omega
      refine seg_intro (fun wz => Fx (only g) w2 wz) (Fx.drew _ _) ?_
      have ldr : ∀ wz, Fx (only g) w2 wz → ∀ i, wz.cell? (At rb i) = (#[.slice A b.length c, .int .i64 0, .pointer (some (At g 0))] : Array Value)[i]? := fun wz kz i => (kz.blk hbl (fun e => hrg e)).cell i
      simp -implicitDefEqProofs only [go_sem, seval, g0, g2]
      refine hld_intro (.pointer (some (At g 0))) (Fx.drew _ _) (fun wz kz => by have := ldr wz kz; simp -implicitDefEqProofs only [go_sem, seval, this]; exact ⟨trivial, trivial⟩) ?_
      simp -implicitDefEqProofs only [go_sem, seval, g0, g2]
      have ldd := ldr w2.drew (Fx.drew _ _)
      simp -implicitDefEqProofs only [go_sem, seval, ldd]
      refine goE_intro (Fx.drew _ _) ?_
      simp -implicitDefEqProofs only [go_sem, seval, g0, g2, ht0, ht1, ht2, ht3, ht4]
      have hl1 : (b.take to).length = to := by rw [List.length_take]; omega
      have hSb : ∃ cs, Blk w2 g 89 cs := by rcases hS with h | h <;> exact ⟨_, h⟩
      obtain ⟨csS, hSb⟩ := hSb
      have hof := of_own (w := w2.drew) (g := g) (hS.fx (Fx.drew (fun _ => False) _) (fun h => h)) (hbs.take to) (A := A) (c := c) ((hr1.take to).fx (Fx.drew (fun _ => False) _) (fun _ _ h => h))
        (fun _ ad q1 q2 => ho.ne hSb (by decide) (by rw [q1]; show some ad.block = some g; rw [q2])) (by omega)
      rw [hl1] at hof
      refine hof.mono ?_
      rintro v w3 ⟨rfl, hR3, f3⟩
      have F3 := (Fx.drew (only g) w2).tr f3
      have hbl3 := F3.blk hbl (fun e => hrg e)
      have hrr3 := F3.blk hr (fun e => by have : rr = g := e; omega)
      have ho3 := ho.fx F3 (fun k hk e => ho.ne hSb (by decide) (by rw [← hk, show k = g from e]))
      have hlenb : 0 < b.length := by omega
      obtain ⟨gb, rfl, hat⟩ := own_at ho3 hlenb
      have s3 := F3.size
      have d0 : (0 : Int) ≤ ((to + 4 : Nat) : Int) := by omega
      have d1 : to ≤ to + 4 := by omega
      have d2 : to + 4 ≤ c := by omega
      have d3 : to + 4 - to = 4 := by omega
      have d4 : ((to + 4 : Nat) : Int) ≤ (c : Int) := by omega
      have d5 : (to : Int) ≤ ((to + 4 : Nat) : Int) := by omega
      have d6 : cutA (some (At gb 0)) to c 1 = some (At gb to) := by
        unfold cutA
        rw [if_neg (by omega)]
        show some ((At gb 0).add (to * 1)) = _
        rw [at_add, Nat.mul_one, Nat.zero_add]
      have d7 : IntKind.i64.wrap ((to : Int) + 4) = ((to + 4 : Nat) : Int) := e4
      have j0 : (0 : Int) < ((4 : Nat) : Int) := by decide
      have j1 : (1 : Int) < ((4 : Nat) : Int) := by decide
      have j2 : (2 : Int) < ((4 : Nat) : Int) := by decide
      have j3 : (3 : Int) < ((4 : Nat) : Int) := by decide
      simp -implicitDefEqProofs only [go_sem, seval, hbl3.cell, e4, ht0, d0, d1, d2, d3, d4, d5, d6, g0, g2, j0, j1, j2, j3]
      refine seg_intro (fun wz => Keep w3 wz) (Fx.drew _ _) ?_
      have ldb : ∀ wz, Keep w3 wz → ∀ i (hi : i < b.length), wz.cell? (At gb i) = some (.int .u8 b[i]) := fun wz kz i hi => by
        have hbk : ∃ cs, Blk w3 gb 5 cs := by
          rcases ho3.2 with ⟨hv, hn⟩ | ⟨g', cap, cur, hv, hb', hg', _⟩
          · omega
          · injection hv with q1 _ _
            cases q1
            exact ⟨cur, hg'⟩
        obtain ⟨cs, hbk⟩ := hbk
        rw [← hat i hi, (kz.blk hbk (fun h => h)).cell i, hbk.cell i]
      simp -implicitDefEqProofs only [go_sem, seval]
      refine hld_intro (.int .u8 b[to]) (Fx.drew _ _) (fun wz kz => by have := ldb wz kz to (by omega); simp -implicitDefEqProofs only [go_sem, seval, this]; exact ⟨trivial, trivial⟩) ?_
      simp -implicitDefEqProofs only [go_sem, seval]
      refine hld_intro (.int .u8 b[to + 1]) (Fx.drew _ _) (fun wz kz => by have := ldb wz kz (to + 1) (by omega); simp -implicitDefEqProofs only [go_sem, seval, this]; exact ⟨trivial, trivial⟩) ?_
      simp -implicitDefEqProofs only [go_sem, seval]
      refine hld_intro (.int .u8 b[to + 2]) (Fx.drew _ _) (fun wz kz => by have := ldb wz kz (to + 2) (by omega); simp -implicitDefEqProofs only [go_sem, seval, this]; exact ⟨trivial, trivial⟩) ?_
      have ld3 := ldb w3.drew (Fx.drew _ _) (to + 3) (by omega)
      simp -implicitDefEqProofs only [go_sem, seval, ld3]
      refine goE_intro (Fx.drew _ _) ?_
      have y0 := hbs b[to] (List.getElem_mem _)
      have y1 := hbs b[to + 1] (List.getElem_mem _)
      have y2 := hbs b[to + 2] (List.getElem_mem _)
      have y3 := hbs b[to + 3] (List.getElem_mem _)
      have hor := or4 y0 y1 y2 y3
      have hsq := sum4_eq (crcI_range (b.take to)) y0 y1 y2 y3
      rw [← four_at (by omega)] at hsq
      have kd3 : Keep w3 w3.drew := Fx.drew _ _
      have hRs : Sum w3 g := .inr hR3
      have FG : Fx (fun k => k = rb ∨ k = g) w w3 := (kA.fx _).tr (F3.weaken fun k _ e => .inr e)
      by_cases hsum : sum4 (crcI (b.take to)) = (b.drop to).take 4
      case neg =>
        rw [if_pos hsum] at hnf
        have zc : (b[to] * 16777216 + b[to + 1] * 65536 + b[to + 2] * 256 + b[to + 3] != crcI (b.take to)) = true := by rw [bne_iff_ne]; exact fun h => hsum (hsq.2 h)
        simp -implicitDefEqProofs only [go_sem, seval, hor, zc, g0, g2]
        refine (ffail_calls (kd3.blk hbl3 (fun h => h))).mono ?_
        rintro v w4 ⟨rfl, hb4, f4⟩
        obtain ⟨w5, S5, L5, fin⟩ := fend (FG.keep kd3) (kd3.blk hrr3 (fun h => h)) hb4 f4 (hRs.fx kd3 (fun h => h)) (e := 73) hnf
        simp -implicitDefEqProofs only [go_sem, seval, g0, g2, S5, L5]
        exact fin
      rw [if_neg (fun h => h hsum)] at hnf
      have zc : (b[to] * 16777216 + b[to + 1] * 65536 + b[to + 2] * 256 + b[to + 3] != crcI (b.take to)) = false := by rw [bne_eq_false_iff_eq]; exact hsq.1 hsum
      simp -implicitDefEqProofs only [go_sem, seval, hor, zc, g0, g2]
      have hb3 : b[3]?.getD 0 = b[3] := by rw [List.getElem?_eq_getElem (by omega)]; rfl
      rw [hb3] at hnf
      have hbody : (b.take to).drop (4 + u) = (b.drop (4 + u)).take (to - (4 + u)) := by rw [List.drop_take]
      rw [hbody] at hnf
      have hr13 : RdI w3 .u8 (some (At gb 0)) b := by
        obtain ⟨_, _, e, _, hr⟩ := ho3.slice
        injection e with q1 _ _
        subst q1
        exact hr
      have rdc := (hr13.cut (4 + u) c hc).take (to - (4 + u))
      have hle : ((b.drop (4 + u)).take (to - (4 + u))).length = to - (4 + u) := by rw [List.length_take, List.length_drop]; omega
      have hbb : Bs ((b.drop (4 + u)).take (to - (4 + u))) := (hbs.drop _).take _
      have d8 : cutA (some (At gb 0)) (4 + u) c 1 = some (At gb (4 + u)) := by
        unfold cutA
        rw [if_neg (by omega)]
        show some ((At gb 0).add ((4 + u) * 1)) = _
        rw [at_add, Nat.mul_one, Nat.zero_add]
      rw [d8] at rdc
      have y33 := hbs b[3] (List.getElem_mem _)
      have hgb : gb < w3.heap.size := (ho3.lt (k := gb) rfl).2
      have c1 : (0 : Int) ≤ ((4 + u : Nat) : Int) := by omega
      have c2 : ((4 + u : Nat) : Int) ≤ (to : Int) := by omega
      have getx : ∀ wz, Keep w3 wz → callK Try.prog 20 #[.int .u8 b[3], .slice (some (At gb (4 + u))) (to - (4 + u)) (c - (4 + u))] wz fun v w' => ∃ cs, v = .tuple #[.agg (List.toArray cs), .int .i64 (getMsg b[3] ((b.drop (4 + u)).take (to - (4 + u)))).2] ∧ kMsg.rep (fun k => wz.heap.size ≤ k) w' (getMsg b[3] ((b.drop (4 + u)).take (to - (4 + u)))).1 cs ∧ Keep wz w' := by
        intro wz kz
        have := get_msg_calls (w := wz) (A := some (At gb (4 + u))) (c := c - (4 + u)) (b := (b.drop (4 + u)).take (to - (4 + u))) y33.1 y33.2 (by omega) (by simp only [maxLen]; omega) (elems_of (rdc.fx kz (fun _ _ h => h)) (fun ad e _ => by cases e; have := kz.size; show gb < _; omega) (fun x hx => u8_wf (hbb x hx).1 (hbb x hx).2))
        rw [hle] at this
        exact this
      generalize (b.drop (4 + u)).take (to - (4 + u)) = body at *
      refine frs_cut (T := fun f w' => ∃ xb cs, f 0 = .pointer (some (At rb 0)) ∧ f 2 = .pointer (some (At rr 0)) ∧ f 10 = .int .i64 to ∧ f 13 = .pointer (some (At xb 0)) ∧ f 8 = .int .i64 (getMsg b[3] body).2 ∧ Blk w' xb 42 (List.toArray cs) ∧ kMsg.rep (fun k => w3.heap.size ≤ k) w' (getMsg b[3] body).1 cs ∧ Keep w3 w' ∧ w3.heap.size ≤ xb) ?_ ?_
      · rintro f w4 ⟨xb, cs, g0, g2, g10, g13, g8, hx4, hm4, k4, hxb⟩
        have hbl4 := k4.blk hbl3 (fun h => h)
        have hrr4 := k4.blk hrr3 (fun h => h)
        have s4 := k4.size
        have FG4 : Fx (fun k => k = rb ∨ k = g) w w4 := FG.keep k4
        by_cases he0 : (getMsg b[3] body).2 = 0
        case neg =>
          rw [if_pos he0] at hnf
          have ze : ((getMsg b[3] body).2 != 0) = true := by rw [bne_iff_ne]; exact he0
          simp -implicitDefEqProofs only [go_sem, seval, g0, g2, g8, ze]
          refine (ffail_calls hbl4).mono ?_
          rintro v w5 ⟨rfl, hb5, f5⟩
          obtain ⟨w6, S6, L6, fin⟩ := fend FG4 hrr4 hb5 f5 (hRs.fx k4 (fun h => h)) hnf
          simp -implicitDefEqProofs only [go_sem, seval, g0, g2, S6, L6]
          exact fin
        rw [if_neg (fun h => h he0)] at hnf
        have ze : ((getMsg b[3] body).2 != 0) = false := by rw [bne_eq_false_iff_eq]; exact he0
        have c3 : ((to + 4 : Nat) : Int) ≤ (b.length : Int) := by omega
        simp -implicitDefEqProofs only [go_sem, seval, g0, g2, g8, g10, g13, ze, hbl4.cell, e4, d0, c3, hc]
        have rest4 := (hr13.fx k4 (fun _ _ h => h)).cut (to + 4) c hc
        have hle2 : (b.drop (to + 4)).length = b.length - (to + 4) := List.length_drop ..
        have hrb : Bs (b.drop (to + 4)) := hbs.drop _
        have hcl := clone_own (w := w4) (U := fun k => k < w4.heap.size) (A := cutA (some (At gb 0)) (to + 4) c 1) (c := c - (to + 4)) (b := b.drop (to + 4)) (by omega) (by simp only [maxLen]; omega) (by omega)
          (elems_of rest4 (fun ad e _ => by
            have : ad.block = gb := by
              unfold cutA at e
              split at e
              · cases e; rfl
              · simp only [Option.map_some, Option.some.injEq] at e
                rw [← e, at_add]
            rw [this]; omega) (fun x hx => u8_wf (hrb x hx).1 (hrb x hx).2))
        rw [hle2] at hcl
        refine hcl.mono ?_
        rintro v5 w5 ⟨⟨hk5, ho5⟩, k5⟩
        have hbl5 := k5.blk hbl4 (fun h => h)
        have ov5 := kBytesM.one hk5 v5 (by simp)
        have s5 := k5.size
        simp -implicitDefEqProofs only [go_sem, seval, hbl5.cell, hbl5.frozen, ov5, g0, g2, g13]
        have hbl6 := hbl5.set 0 v5
        simp only [List.setIfInBounds_toArray, List.set_cons_zero] at hbl6
        have f6 : Fx (only rb) w5 (w5.setCell (At rb 0) v5) := Fx.set _ _ _ rfl
        have hx6 := f6.blk (k5.blk hx4 (fun h => h)) (fun e => by have : xb = rb := e; omega)
        have hm6 := kMsg.fx (kMsg.keep hm4 k5) f6 (fun k hk e => by have : k = rb := e; omega)
        have ho6 := ho5.fx f6 (fun k hk e => by have := (ho5.lt hk).1; have : k = rb := e; omega)
        have hrr6 := f6.blk (k5.blk hrr4 (fun h => h)) (fun e => by have : rr = rb := e; omega)
        have hRs6 := ((hRs.fx k4 (fun h => h)).fx k5 (fun h => h)).fx f6 (fun e => hrg e.symm)
        have FG6 : Fx (fun k => k = rb ∨ k = g) w (w5.setCell (At rb 0) v5) := (FG4.keep k5).tr (f6.weaken fun k _ e => .inl e)
        generalize w5.setCell (At rb 0) v5 = w6 at *
        have hcl6 : cs.length = 28 := kMsg.len hm6
        have hci := cells_in hx6 0 28
        rw [List.drop_zero, List.take_of_length_le (by omega)] at hci
        have ld6 := ldV_agg (P := Try.prog) (w := w6) sh42 hcl6 hci
        obtain ⟨w7, S7, hx7, f7⟩ := store_cells2 hrr6 hcl6 (allOne_of (kMsg.one hm6))
        have hci7 := cells_in hx7 0 28
        rw [List.drop_zero, List.take_of_length_le (by omega)] at hci7
        have ld7 := ldV_agg (P := Try.prog) (w := w7) sh42 hcl6 hci7
        simp -implicitDefEqProofs only [go_sem, seval, g0, g2, g13, ld6, S7, ld7]
        refine ⟨cs, ?_, ?_, ?_, ?_⟩
        · rw [hnf]
        · rw [hnf]; exact kMsg.mono (kMsg.fx hm6 f7 (fun k hk e => by have : k = rr := e; omega)) (fun k _ hk => by omega)
        · rw [hnf]
          exact ⟨v5, f7.blk hbl6 (fun e => by have : rb = rr := e; omega), (ho6.fx f7 (fun k hk e => by have := (ho6.lt hk).1; have : k = rr := e; omega)).lower (by omega), hrb, hRs6.fx f7 (fun e => by have : g = rr := e; omega), hrg, by have := f7.size; have := FG6.size; omega⟩
        · exact FG6.new f7 (fun k e hk => by have : k = rr := e; omega)
      · intro K' hK'
        have kdd : Keep w3 w3.drew.drew := kd3.tr (Fx.drew _ _)
        refine frs_intro (fun wz => Keep w3 wz) kdd ?_
        have ldr3 : ∀ wz, Keep w3 wz → ∀ i, wz.cell? (At rb i) = (#[.slice (some (At gb 0)) b.length c, .int .i64 0, .pointer (some (At g 0))] : Array Value)[i]? := fun wz kz i => (kz.blk hbl3 (fun h => h)).cell i
        simp -implicitDefEqProofs only [go_sem, seval, g0, g2]
        refine hld_intro (.slice (some (At gb 0)) b.length c) kdd (fun wz kz => by have := ldr3 wz kz; simp -implicitDefEqProofs only [go_sem, seval, this]; exact ⟨trivial, trivial⟩) ?_
        have l3 : (3 : Int) < (b.length : Int) := by omega
        simp -implicitDefEqProofs only [go_sem, seval, l3]
        refine hld_intro (.int .u8 b[3]) kdd (fun wz kz => by have := ldb wz kz 3 (by omega); simp -implicitDefEqProofs only [go_sem, seval, this]; exact ⟨trivial, trivial⟩) ?_
        simp -implicitDefEqProofs only [go_sem, seval]
        refine hld_intro (.slice (some (At gb 0)) b.length c) kdd (fun wz kz => by have := ldr3 wz kz; simp -implicitDefEqProofs only [go_sem, seval, this]; exact ⟨trivial, trivial⟩) ?_
        simp -implicitDefEqProofs only [go_sem, seval, c1, c2, ht4, d8]
        refine frk_intro ?_ ?_
        · simp -implicitDefEqProofs only [go_sem, seval]
          refine (getx w3.drew.drew kdd).mono ?_
          rintro v w4 ⟨cs, rfl, hm4, k4⟩
          have k34 := kdd.tr k4
          simp -implicitDefEqProofs only [go_sem, seval]
          refine shs_intro k34 ?_
          simp -implicitDefEqProofs only [go_sem, seval]
          refine goE_intro (k34.tr (Fx.alloc _ _ _)) ?_
          obtain ⟨w5, S5, hx5, k5, s5⟩ := store_cells (w := w4) (kMsg.len hm4) (allOne_of (kMsg.one hm4))
          have sdd := kdd.size
          have s34 := k34.size
          simp -implicitDefEqProofs only [go_sem, seval, S5]
          exact hK' _ _ ⟨w4.heap.size, cs, by simp -implicitDefEqProofs only [go_sem, seval, g0], by simp -implicitDefEqProofs only [go_sem, seval, g2], by simp -implicitDefEqProofs only [go_sem, seval], by simp -implicitDefEqProofs only [go_sem, seval], by simp -implicitDefEqProofs only [go_sem, seval], hx5, kMsg.mono (kMsg.keep hm4 k5) (fun k _ hk => by omega), k34.tr k5, s34⟩
        · simp -implicitDefEqProofs only [go_sem, seval]
          have kal : Keep w3 (w3.drew.drew.alloc (.cells #[.int .u8 0, .int .u32 0, .int .u32 0, .int .u64 0, .int .u8 0, .int .u32 0, .string ⟨#[]⟩, .string ⟨#[]⟩, .int .u8 0, .int .u8 0, .bool false, .int .u8 0, .int .u16 0, .slice none 0 0, .int .u32 0, .slice none 0 0, .int .u16 0, .int .u16 0, .slice none 0 0, .slice none 0 0, .slice none 0 0, .int .u32 0, .int .u32 0, .slice none 0 0, .int .u64 0, .slice none 0 0, .slice none 0 0, .slice none 0 0] 42)) := kdd.tr (Fx.alloc _ _ _)
          have hbx : Blk _ _ _ _ := Blk.new w3.drew.drew 42 #[.int .u8 0, .int .u32 0, .int .u32 0, .int .u64 0, .int .u8 0, .int .u32 0, .string ⟨#[]⟩, .string ⟨#[]⟩, .int .u8 0, .int .u8 0, .bool false, .int .u8 0, .int .u16 0, .slice none 0 0, .int .u32 0, .slice none 0 0, .int .u16 0, .int .u16 0, .slice none 0 0, .slice none 0 0, .slice none 0 0, .int .u32 0, .int .u32 0, .slice none 0 0, .int .u64 0, .slice none 0 0, .slice none 0 0, .slice none 0 0]
          have sal := size_alloc w3.drew.drew (.cells #[.int .u8 0, .int .u32 0, .int .u32 0, .int .u64 0, .int .u8 0, .int .u32 0, .string ⟨#[]⟩, .string ⟨#[]⟩, .int .u8 0, .int .u8 0, .bool false, .int .u8 0, .int .u16 0, .slice none 0 0, .int .u32 0, .slice none 0 0, .int .u16 0, .int .u16 0, .slice none 0 0, .slice none 0 0, .slice none 0 0, .int .u32 0, .int .u32 0, .slice none 0 0, .int .u64 0, .slice none 0 0, .slice none 0 0, .slice none 0 0] 42)
          have sdd := kdd.size
          refine shs_intro kal ?_
          have kal : Keep w3 (w3.alloc (.cells #[.int .u8 0, .int .u32 0, .int .u32 0, .int .u64 0, .int .u8 0, .int .u32 0, .string ⟨#[]⟩, .string ⟨#[]⟩, .int .u8 0, .int .u8 0, .bool false, .int .u8 0, .int .u16 0, .slice none 0 0, .int .u32 0, .slice none 0 0, .int .u16 0, .int .u16 0, .slice none 0 0, .slice none 0 0, .slice none 0 0, .int .u32 0, .int .u32 0, .slice none 0 0, .int .u64 0, .slice none 0 0, .slice none 0 0, .slice none 0 0] 42)).drew.drew := kal
          have hbx : Blk (w3.alloc (.cells #[.int .u8 0, .int .u32 0, .int .u32 0, .int .u64 0, .int .u8 0, .int .u32 0, .string ⟨#[]⟩, .string ⟨#[]⟩, .int .u8 0, .int .u8 0, .bool false, .int .u8 0, .int .u16 0, .slice none 0 0, .int .u32 0, .slice none 0 0, .int .u16 0, .int .u16 0, .slice none 0 0, .slice none 0 0, .slice none 0 0, .int .u32 0, .int .u32 0, .slice none 0 0, .int .u64 0, .slice none 0 0, .slice none 0 0, .slice none 0 0] 42)).drew.drew w3.drew.drew.heap.size 42 #[.int .u8 0, .int .u32 0, .int .u32 0, .int .u64 0, .int .u8 0, .int .u32 0, .string ⟨#[]⟩, .string ⟨#[]⟩, .int .u8 0, .int .u8 0, .bool false, .int .u8 0, .int .u16 0, .slice none 0 0, .int .u32 0, .slice none 0 0, .int .u16 0, .int .u16 0, .slice none 0 0, .slice none 0 0, .slice none 0 0, .int .u32 0, .int .u32 0, .slice none 0 0, .int .u64 0, .slice none 0 0, .slice none 0 0, .slice none 0 0] := hbx
          have sal : (w3.alloc (.cells #[.int .u8 0, .int .u32 0, .int .u32 0, .int .u64 0, .int .u8 0, .int .u32 0, .string ⟨#[]⟩, .string ⟨#[]⟩, .int .u8 0, .int .u8 0, .bool false, .int .u8 0, .int .u16 0, .slice none 0 0, .int .u32 0, .slice none 0 0, .int .u16 0, .int .u16 0, .slice none 0 0, .slice none 0 0, .slice none 0 0, .int .u32 0, .int .u32 0, .slice none 0 0, .int .u64 0, .slice none 0 0, .slice none 0 0, .slice none 0 0] 42)).drew.drew.heap.size = w3.drew.drew.heap.size + 1 := sal
          simp -implicitDefEqProofs only [go_sem, seval]
          generalize (w3.alloc (.cells #[.int .u8 0, .int .u32 0, .int .u32 0, .int .u64 0, .int .u8 0, .int .u32 0, .string ⟨#[]⟩, .string ⟨#[]⟩, .int .u8 0, .int .u8 0, .bool false, .int .u8 0, .int .u16 0, .slice none 0 0, .int .u32 0, .slice none 0 0, .int .u16 0, .int .u16 0, .slice none 0 0, .slice none 0 0, .slice none 0 0, .int .u32 0, .int .u32 0, .slice none 0 0, .int .u64 0, .slice none 0 0, .slice none 0 0, .slice none 0 0] 42)).drew.drew = wa at *
          have hxs : w3.drew.drew.heap.size = w3.heap.size := rfl
          refine (getx wa kal).mono ?_
          rintro v w4 ⟨cs, rfl, hm4, k4⟩
          refine goE_intro (kal.tr k4) ?_
          obtain ⟨w5, S5, hx5, f5⟩ := store_cells2 (k4.blk hbx (fun h => h)) (kMsg.len hm4) (allOne_of (kMsg.one hm4))
          simp -implicitDefEqProofs only [go_sem, seval, S5]
          exact hK' _ _ ⟨w3.drew.drew.heap.size, cs, by simp -implicitDefEqProofs only [go_sem, seval, g0], by simp -implicitDefEqProofs only [go_sem, seval, g2], by simp -implicitDefEqProofs only [go_sem, seval], by simp -implicitDefEqProofs only [go_sem, seval], by simp -implicitDefEqProofs only [go_sem, seval], hx5, kMsg.mono (kMsg.fx hm4 f5 (fun k hk e => by have : k = w3.drew.drew.heap.size := e; omega)) (fun k _ hk => by have := kal.size; omega), (kal.tr k4).new f5 (fun k e hk => by have : k = w3.drew.drew.heap.size := e; omega), by omega⟩
  · have z1 : (why != 0) = true := by simp [hw]
    have hst : stepF b why = (zMsg 0, why, b, why) := by unfold stepF; rw [if_neg hw]
    simp -implicitDefEqProofs only [go_sem, seval, z1]
    obtain ⟨w2, S2, L2, fin⟩ := zend (wz := w1.drew) (e := why) hr (kA.tr (Fx.drew _ _)) hst
    refine frs_cut (T := fun f w' => f 3 = .int .i64 why ∧ f 2 = .pointer (some (At rr 0)) ∧ w' = w2) ?_ ?_
    · rintro f w' ⟨g3, g2, rfl⟩
      simp -implicitDefEqProofs only [go_sem, seval, g3, g2, L2]
      exact fin
    · intro K' hK'
      refine frs_intro (fun _ => True) trivial ?_
      simp -implicitDefEqProofs only [go_sem, seval]
      refine frk_intro ?_ ?_
      · have := hbl.drew.cell
        simp -implicitDefEqProofs only [go_sem, seval, this]
        refine shs_intro trivial ?_
        simp -implicitDefEqProofs only [go_sem, seval, S2]
        exact hK' _ _ ⟨by simp -implicitDefEqProofs only [go_sem, seval], by simp -implicitDefEqProofs only [go_sem, seval], rfl⟩
      · simp -implicitDefEqProofs only [go_sem, seval, S2]
        refine shs_intro trivial ?_
        have hb2 : Blk w2 rb 55 #[vb, .int .i64 why, .pointer (some (At g 0))] := by
          have e := (stB (P := Try.prog) (o := 0) sz42 (show Blk w1.drew rr 42 #[.int .u8 0, .int .u32 0, .int .u32 0, .int .u64 0, .int .u8 0, .int .u32 0, .string ⟨#[]⟩, .string ⟨#[]⟩, .int .u8 0, .int .u8 0, .bool false, .int .u8 0, .int .u16 0, .slice none 0 0, .int .u32 0, .slice none 0 0, .int .u16 0, .int .u16 0, .slice none 0 0, .slice none 0 0, .slice none 0 0, .int .u32 0, .int .u32 0, .slice none 0 0, .int .u64 0, .slice none 0 0, .slice none 0 0, .slice none 0 0] from hr) (by decide) [.int .u8 0, .int .u32 0, .int .u32 0, .int .u64 0, .int .u8 0, .int .u32 0, .string ⟨#[]⟩, .string ⟨#[]⟩, .int .u8 0, .int .u8 0, .bool false, .int .u8 0, .int .u16 0, .slice none 0 0, .int .u32 0, .slice none 0 0, .int .u16 0, .int .u16 0, .slice none 0 0, .slice none 0 0, .slice none 0 0, .int .u32 0, .int .u32 0, .slice none 0 0, .int .u64 0, .slice none 0 0, .slice none 0 0, .slice none 0 0] rfl rfl).symm.trans S2
          cases e
          exact (show Blk w1.drew rb _ _ from hbl).put_ne (by omega) 0 _
        simp -implicitDefEqProofs only [go_sem, seval, hb2.cell]
        refine goE_intro trivial ?_
        simp -implicitDefEqProofs only [go_sem, seval]
        exact hK' _ _ ⟨by simp -implicitDefEqProofs only [go_sem, seval], by simp -implicitDefEqProofs only [go_sem, seval], rfl⟩
end Go.Proofs.Ytnlibeaainbipaa.F
