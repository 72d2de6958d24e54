/- A message's fields, read. Conditions: those of the reader's box; the message's box is another one. -/
import Derived.Test.YtnlibeaainbipaaGput
import Derived.Test.YtnlibeaainbipaaGitem
namespace Go.Proofs.Ytnlibeaainbipaa.V
def rconf (s : RS) : MConf × RS :=
  let a := rtext s
  let b := rnum 255 a.2
  let c := rnum 1 b.2
  let d := rflag c.2
  let e := rnum 255 d.2
  let f := rnum 65535 e.2
  (⟨a.1, b.1, c.1, d.1, e.1, f.1⟩, f.2)
def rfilter (s : RS) : MFilter × RS :=
  let a := rtexts s
  let b := rtexts a.2
  let c := rtexts b.2
  (⟨a.1, b.1, c.1⟩, c.2)
def ritems (s : RS) : List MItem × RS := rlist ritem s
def rhits (s : RS) : List MHit × RS := rlist rhit s
/-- One field read. -/
def rfieldP (f : Int) (p : Msg × RS) : Msg × RS := if f = 114 then ({ p.1 with req := (rnum 4294967295 p.2).1 }, (rnum 4294967295 p.2).2) else if f = 99 then ({ p.1 with caps := (rnum 4294967295 p.2).1 }, (rnum 4294967295 p.2).2) else if f = 116 then ({ p.1 with token := (rnum 18446744073709551615 p.2).1 }, (rnum 18446744073709551615 p.2).2) else if f = 101 then ({ p.1 with code := (rnum 255 p.2).1 }, (rnum 255 p.2).2) else if f = 110 then ({ p.1 with n := (rnum 4294967295 p.2).1 }, (rnum 4294967295 p.2).2) else if f = 78 then ({ p.1 with name := (rtext p.2).1 }, (rtext p.2).2) else if f = 67 then ({ p.1 with conf := (rconf p.2).1 }, (rconf p.2).2) else if f = 76 then ({ p.1 with changes := (rchanges p.2).1 }, (rchanges p.2).2) else if f = 105 then ({ p.1 with id := (rnum 4294967295 p.2).1 }, (rnum 4294967295 p.2).2) else if f = 118 then ({ p.1 with vec := (rvec p.2).1 }, (rvec p.2).2) else if f = 107 then ({ p.1 with k := (rnum 65535 p.2).1 }, (rnum 65535 p.2).2) else if f = 119 then ({ p.1 with width := (rnum 65535 p.2).1 }, (rnum 65535 p.2).2) else if f = 102 then ({ p.1 with filter := (rfilter p.2).1 }, (rfilter p.2).2) else if f = 117 then ({ p.1 with num := (rnum 4294967295 p.2).1 }, (rnum 4294967295 p.2).2) else if f = 112 then ({ p.1 with page := (rnum 4294967295 p.2).1 }, (rnum 4294967295 p.2).2) else if f = 98 then ({ p.1 with bytes := (rcut p.2).1 }, (rcut p.2).2) else if f = 86 then ({ p.1 with version := (rnum 18446744073709551615 p.2).1 }, (rnum 18446744073709551615 p.2).2) else if f = 83 then ({ p.1 with names := (rtexts p.2).1 }, (rtexts p.2).2) else if f = 73 then ({ p.1 with items := (ritems p.2).1 }, (ritems p.2).2) else if f = 72 then ({ p.1 with hits := (rhits p.2).1 }, (rhits p.2).2) else p
end Go.Proofs.Ytnlibeaainbipaa.V
namespace Go.Proofs.Ytnlibeaainbipaa.M
open Go.RowKit Go.Proofs.Ytnlibeaainbipaa.V
set_option linter.unusedSimpArgs false
variable {P : Program}
theorem wfU64 {n : Int} (h0 : 0 ≤ n) (h1 : n ≤ 18446744073709551615) : (Lit.int .u64 n).wf = true := by
  simp [Lit.wf, IntKind.min, IntKind.max, IntKind.signed, IntKind.bits]; omega
theorem wfU16 {n : Int} (h0 : 0 ≤ n) (h1 : n ≤ 65535) : (Lit.int .u16 n).wf = true := by
  simp [Lit.wf, IntKind.min, IntKind.max, IntKind.signed, IntKind.bits]; omega
theorem bin_slnil {t e : TypeId} (ht : P.underlying t = some (.slice e)) (A : Option Addr) (n c : Nat) (x y : Operand) {w : World} {k : Value → World → Prop} (hk : k (.bool A.isNone) w) : binK P .eql t x y (.slice A n c) (.slice none 0 0) w k := by
  show runK P _ w k
  refine runK_of (v := .bool A.isNone) (w' := w) ?_ hk
  have h1 : (Op.equal t (.slice A n c) (.slice none 0 0)).run P w = .ok A.isNone w := by
    have : ∀ d, (Op.equalIn (d + 1) t (.slice A n c) (.slice none 0 0)).run P w = .ok A.isNone w := by
      intro d
      unfold Op.equalIn
      rw [Sem.run_bind, run_underlying ht]
      cases A <;> rfl
    exact this 9999
  show (do eqGuard .eql t x y (.slice A n c) (.slice none 0 0); (do pure (.bool (← Op.equal t (.slice A n c) (.slice none 0 0))) : Sem Value) : Sem Value).run P w = _
  rw [Sem.run_bind]
  show (Result.ok () w).andThen _ = _
  simp only [Result.andThen]
  rw [Sem.run_bind, h1]
  rfl
theorem cell_set_ne (w : World) (v : Value) {g o o2 : Nat} (h : o ≠ o2) : (w.setCell (At g o) v).cell? (At g o2) = w.cell? (At g o2) := by
  unfold World.setCell World.cell?
  show _ = _
  cases hw : w.heap[g]? with
  | none => simp [Array.getElem?_modify, hw]
  | some ob => cases ob <;> simp [Array.getElem?_modify, hw, h]
theorem cell_fx {t : TypeId} {U m : Nat → Prop} {w w' : World} {g : Nat} {x : Msg} (h : MsgAt t U w g x) (f : Fx m w w') (hg : ¬ m g) (o : Nat) : w'.cell? (At g o) = w.cell? (At g o) := by
  obtain ⟨cs, hb, _⟩ := h
  rw [(f.blk hb hg).cell o, hb.cell o]
theorem put_cell {w : World} {g t : Nat} {cs : List Value} (hb : Blk w g t cs.toArray) {o j : Nat} {vs : List Value} (ho : o ≤ cs.length) (h : j < o ∨ o + vs.length ≤ j) : (putW w g o vs).cell? (At g j) = w.cell? (At g j) := by
  rw [(hb.put o vs).cell j, hb.cell j]
  unfold putC
  simp only [List.getElem?_toArray]
  rcases h with h | h
  · rw [List.append_assoc, List.getElem?_append_left (by simp; omega), List.getElem?_take, if_pos h]
  · rw [List.getElem?_append_right (by simp; omega), List.getElem?_drop]
    congr 1
    simp
    omega
theorem set_cell {t : TypeId} {U : Nat → Prop} {w : World} {g o : Nat} {x : Msg} (h : MsgAt t U w g x) (ho : o < 28) (v : Value) : (w.setCell (At g o) v).cell? (At g o) = some v := by
  obtain ⟨cs, hb, hr⟩ := h
  have hl : cs.length = 28 := kMsg.len hr
  rw [(setCell_one hb (by omega) : Blk _ _ _ _).cell o]
  simp [List.getElem?_append, hl, Nat.min_eq_left (by omega : o ≤ 28)]
end Go.Proofs.Ytnlibeaainbipaa.M
namespace Go.Proofs.Ytnlibeaainbipaa.F
open Go.RowKit Go.Proofs.Ytnlibeaainbipaa.M Go.Proofs.Ytnlibeaainbipaa.V
set_option linter.unusedSimpArgs false
set_option linter.unusedVariables false
set_option maxRecDepth 20000

theorem tItem_own {α : Type} {K : Kind α} {one : RS → α × RS} {U : Nat → Prop} {J : World → Prop} {w : World} {g : Nat} {s : RS} {F : Nat} {first cap : Array Value} (hsz : K.sz = 3) (hz : 0 < K.sz) (hF : hasBody Try.prog F = true) (hU : ¬ U g)
    (H : One K U g J one F (first ++ #[] ++ cap)) (hJ : ∀ (w1 w2 : World) (m : Nat → Prop), J w1 → Fx m w1 w2 → (∀ k, m k → k = g ∨ w.heap.size ≤ k) → J w2) (j0 : J w) (h : RdS 103 U w g s) (hUlt : ∀ k, U k → k < w.heap.size) :
    callK Try.prog 56 #[.pointer (some (At g 0)), .func (.func F) first cap] w fun v w' => OwnR K 58 (fun k => w.heap.size ≤ k) w.heap.size w' v (rlist one s).1 ∧ RdS 103 U w' g (rlist one s).2 ∧ Fx (only g) w w' := by
  refine callK_of Try.func56 c56 r56 (by exact Nat.le_of_ble_eq_true rfl) ?_
  rw [m56]
  simp -implicitDefEqProofs only [go_sem, seval]
  have hglt := h.lt
  refine (num_calls 128 hU h).mono ?_
  rintro v w1 ⟨rfl, h1, f1⟩
  have r := rnum_range 128 (by decide) s h.bs
  have j1 := hJ w w1 _ j0 f1 (fun k e => .inl e)
  unfold rlist
  generalize rnum 128 s = q at *
  obtain ⟨n, s1⟩ := q
  simp only at r h1 ⊢
  obtain ⟨N, rfl⟩ := Int.eq_ofNat_of_zero_le r.1
  rw [Int.toNat_natCast]
  simp -implicitDefEqProofs only [go_sem, seval]
  refine loop_intro (fun q f w' => ∃ (n : Nat) (xs : List α) (s' : RS) (v : Value), q = n ∧ f 0 = .pointer (some (At g 0)) ∧ f 1 = .func (.func F) first cap ∧ f 5 = v ∧ f 6 = .int .u64 n ∧ (rmany one N s1).1 = xs ++ (rmany one n s').1 ∧ (rmany one N s1).2 = (rmany one n s').2 ∧ xs.length + n ≤ 128 ∧
      OwnR K 58 (fun k => w.heap.size ≤ k) w.heap.size w' v xs ∧ RdS 103 U w' g s' ∧ J w' ∧ Fx (only g) w w') N
    ⟨N, [], s1, _, rfl, by simp -implicitDefEqProofs only [go_sem, seval], by simp -implicitDefEqProofs only [go_sem, seval], by simp -implicitDefEqProofs only [go_sem, seval], by simp -implicitDefEqProofs only [go_sem, seval], rfl, rfl, by simp; omega, OwnR.nil _ _ _ _ _, h1, j1, f1⟩ ?_
  rintro q f w2 ⟨n, xs, s', v, rfl, g0, g1, g5, g6, e1, e2, hl, ho, h2, j2, f2⟩
  obtain ⟨A, c, hb, hrest⟩ := id h2
  have fin : ∀ {xs' : List α} {s'' : RS}, (rmany one N s1).1 = xs' → (rmany one N s1).2 = s'' → OwnR K 58 (fun k => w.heap.size ≤ k) w.heap.size w2 v xs' → RdS 103 U w2 g s'' →
      OwnR K 58 (fun k => w.heap.size ≤ k) w.heap.size w2 v (rmany one N s1).1 ∧ RdS 103 U w2 g (rmany one N s1).2 ∧ Fx (only g) w w2 := by
    rintro xs' s'' rfl rfl k1 k2
    exact ⟨k1, k2, f2⟩
  cases q with
  | zero =>
    have z : ¬ (0 : Int) < ((0 : Nat) : Int) := by omega
    simp -implicitDefEqProofs only [go_sem, seval, g0, g1, g5, g6, z]
    exact fin (by rw [e1]; simp [rmany]) (by rw [e2]; rfl) ho h2
  | succ n =>
    have z : (0 : Int) < ((n + 1 : Nat) : Int) := by omega
    by_cases hw : s'.why = 0
    · have z1 : (s'.why == 0) = true := by rw [beq_iff_eq]; exact hw
      simp -implicitDefEqProofs only [go_sem, seval, g0, g1, g5, g6, z, z1, hb.cell, fnK_eq hF]
      refine (H w2 s' j2 h2).mono ?_
      rintro v2 w3 ⟨hr, h3, f3⟩
      have hs2 := f2.size
      have hs3 := f3.size
      have j3 := hJ w2 w3 _ j2 f3 (fun k e => .inl e)
      have hvs : v2.cells.size = 3 := by have := K.len hr; simpa [hsz] using this
      have ho3 : OwnR K 58 (fun k => w.heap.size ≤ k) w.heap.size w3 v xs := ho.fx f3 (fun k hk _ e => by have : k = g := e; omega) (fun k hk e => by have := ho.lt hk; have : k = g := e; omega)
      simp -implicitDefEqProofs only [go_sem, seval]
      refine bsl_val et39 (by decide) (by decide) hvs ?_
      have kA : Keep w3 (w3.alloc (.cells v2.cells 58)) := Fx.alloc _ w3 _
      have hbn := (Blk.new w3 58 v2.cells).cells
      have ho4 := ho3.keep kA
      have h4 := h3.keep kA
      have hr4 := K.keep hr kA
      have j4 := hJ w3 _ _ j3 kA (fun k e => e.elim)
      have hs4 := kA.size
      generalize w3.alloc (.cells v2.cells 58) = w4 at *
      simp -implicitDefEqProofs only [go_sem, seval, g5]
      refine append_ownR et39 hsz (by decide) ho4 (K.mono hr4 fun k _ hk => ⟨by omega, fun e => by have := ho.lt e; omega⟩) hbn (by omega) (by simp only [maxLen]; omega) (by omega) ?_
      intro v' w5 ho5 f5
      have j5 := hJ w4 w5 _ j4 f5 (fun k e => .inr (ho4.lt e).1)
      have h5 := h4.fx f5 (fun e => by have := ho4.lt e; omega) (fun k hk e => by have := ho4.lt e; have := hUlt k hk; omega)
      have eN : IntKind.u64.wrap (((n + 1 : Nat) : Int) - 1) = (n : Int) := by rw [u64_nat (by omega) (by omega)]; omega
      simp -implicitDefEqProofs only [go_sem, seval, g0, g1, g5, g6, eN]
      refine ⟨n, by omega, n, xs ++ [(one s').1], (one s').2, v', rfl, by simp -implicitDefEqProofs only [go_sem, seval, g0], by simp -implicitDefEqProofs only [go_sem, seval, g1], by simp -implicitDefEqProofs only [go_sem, seval], by simp -implicitDefEqProofs only [go_sem, seval], ?_, ?_, by simp; omega, ho5, h5, j5, ?_⟩
      · rw [e1]
        simp [rmany, hw]
      · rw [e2]
        simp [rmany, hw]
      · exact ((f2.tr f3).keep kA).new f5 (fun k e hk => by have := ho4.lt e; omega)
    · have z1 : (s'.why == 0) = false := by rw [beq_eq_false_iff_ne]; exact hw
      simp -implicitDefEqProofs only [go_sem, seval, g0, g1, g5, g6, z, z1, hb.cell]
      rw [many_stay hw] at e1 e2
      exact fin (by rw [e1]; simp) (by rw [e2]) ho h2
theorem tItem_calls {α : Type} {K : Kind α} {one : RS → α × RS} {U : Nat → Prop} {J : World → Prop} {w : World} {g : Nat} {s : RS} {F : Nat} {first cap : Array Value} (hsz : K.sz = 3) (hz : 0 < K.sz) (hF : hasBody Try.prog F = true) (hU : ¬ U g)
    (H : One K U g J one F (first ++ #[] ++ cap)) (hJ : ∀ (w1 w2 : World) (m : Nat → Prop), J w1 → Fx m w1 w2 → (∀ k, m k → k = g ∨ w.heap.size ≤ k) → J w2) (j0 : J w) (h : RdS 103 U w g s) (hUlt : ∀ k, U k → k < w.heap.size) :
    callK Try.prog 56 #[.pointer (some (At g 0)), .func (.func F) first cap] w fun v w' => (Kind.list K hz).rep (fun k => w.heap.size ≤ k) w' (rlist one s).1 [v] ∧ RdS 103 U w' g (rlist one s).2 ∧ Fx (only g) w w' :=
  (tItem_own hsz hz hF hU H hJ j0 h hUlt).mono fun v w' k => ⟨k.1.rep hz (fun _ hk => hk) (fun _ hk => hk), k.2⟩
theorem tHit_own {α : Type} {K : Kind α} {one : RS → α × RS} {U : Nat → Prop} {J : World → Prop} {w : World} {g : Nat} {s : RS} {F : Nat} {first cap : Array Value} (hsz : K.sz = 2) (hz : 0 < K.sz) (hF : hasBody Try.prog F = true) (hU : ¬ U g)
    (H : One K U g J one F (first ++ #[] ++ cap)) (hJ : ∀ (w1 w2 : World) (m : Nat → Prop), J w1 → Fx m w1 w2 → (∀ k, m k → k = g ∨ w.heap.size ≤ k) → J w2) (j0 : J w) (h : RdS 103 U w g s) (hUlt : ∀ k, U k → k < w.heap.size) :
    callK Try.prog 58 #[.pointer (some (At g 0)), .func (.func F) first cap] w fun v w' => OwnR K 107 (fun k => w.heap.size ≤ k) w.heap.size w' v (rlist one s).1 ∧ RdS 103 U w' g (rlist one s).2 ∧ Fx (only g) w w' := by
  refine callK_of Try.func58 c58 r58 (by exact Nat.le_of_ble_eq_true rfl) ?_
  rw [m58]
  simp -implicitDefEqProofs only [go_sem, seval]
  have hglt := h.lt
  refine (num_calls 128 hU h).mono ?_
  rintro v w1 ⟨rfl, h1, f1⟩
  have r := rnum_range 128 (by decide) s h.bs
  have j1 := hJ w w1 _ j0 f1 (fun k e => .inl e)
  unfold rlist
  generalize rnum 128 s = q at *
  obtain ⟨n, s1⟩ := q
  simp only at r h1 ⊢
  obtain ⟨N, rfl⟩ := Int.eq_ofNat_of_zero_le r.1
  rw [Int.toNat_natCast]
  simp -implicitDefEqProofs only [go_sem, seval]
  refine loop_intro (fun q f w' => ∃ (n : Nat) (xs : List α) (s' : RS) (v : Value), q = n ∧ f 0 = .pointer (some (At g 0)) ∧ f 1 = .func (.func F) first cap ∧ f 5 = v ∧ f 6 = .int .u64 n ∧ (rmany one N s1).1 = xs ++ (rmany one n s').1 ∧ (rmany one N s1).2 = (rmany one n s').2 ∧ xs.length + n ≤ 128 ∧
      OwnR K 107 (fun k => w.heap.size ≤ k) w.heap.size w' v xs ∧ RdS 103 U w' g s' ∧ J w' ∧ Fx (only g) w w') N
    ⟨N, [], s1, _, rfl, by simp -implicitDefEqProofs only [go_sem, seval], by simp -implicitDefEqProofs only [go_sem, seval], by simp -implicitDefEqProofs only [go_sem, seval], by simp -implicitDefEqProofs only [go_sem, seval], rfl, rfl, by simp; omega, OwnR.nil _ _ _ _ _, h1, j1, f1⟩ ?_
  rintro q f w2 ⟨n, xs, s', v, rfl, g0, g1, g5, g6, e1, e2, hl, ho, h2, j2, f2⟩
  obtain ⟨A, c, hb, hrest⟩ := id h2
  have fin : ∀ {xs' : List α} {s'' : RS}, (rmany one N s1).1 = xs' → (rmany one N s1).2 = s'' → OwnR K 107 (fun k => w.heap.size ≤ k) w.heap.size w2 v xs' → RdS 103 U w2 g s'' →
      OwnR K 107 (fun k => w.heap.size ≤ k) w.heap.size w2 v (rmany one N s1).1 ∧ RdS 103 U w2 g (rmany one N s1).2 ∧ Fx (only g) w w2 := by
    rintro xs' s'' rfl rfl k1 k2
    exact ⟨k1, k2, f2⟩
  cases q with
  | zero =>
    have z : ¬ (0 : Int) < ((0 : Nat) : Int) := by omega
    simp -implicitDefEqProofs only [go_sem, seval, g0, g1, g5, g6, z]
    exact fin (by rw [e1]; simp [rmany]) (by rw [e2]; rfl) ho h2
  | succ n =>
    have z : (0 : Int) < ((n + 1 : Nat) : Int) := by omega
    by_cases hw : s'.why = 0
    · have z1 : (s'.why == 0) = true := by rw [beq_iff_eq]; exact hw
      simp -implicitDefEqProofs only [go_sem, seval, g0, g1, g5, g6, z, z1, hb.cell, fnK_eq hF]
      refine (H w2 s' j2 h2).mono ?_
      rintro v2 w3 ⟨hr, h3, f3⟩
      have hs2 := f2.size
      have hs3 := f3.size
      have j3 := hJ w2 w3 _ j2 f3 (fun k e => .inl e)
      have hvs : v2.cells.size = 2 := by have := K.len hr; simpa [hsz] using this
      have ho3 : OwnR K 107 (fun k => w.heap.size ≤ k) w.heap.size w3 v xs := ho.fx f3 (fun k hk _ e => by have : k = g := e; omega) (fun k hk e => by have := ho.lt hk; have : k = g := e; omega)
      simp -implicitDefEqProofs only [go_sem, seval]
      refine bsl_val et40 (by decide) (by decide) hvs ?_
      have kA : Keep w3 (w3.alloc (.cells v2.cells 107)) := Fx.alloc _ w3 _
      have hbn := (Blk.new w3 107 v2.cells).cells
      have ho4 := ho3.keep kA
      have h4 := h3.keep kA
      have hr4 := K.keep hr kA
      have j4 := hJ w3 _ _ j3 kA (fun k e => e.elim)
      have hs4 := kA.size
      generalize w3.alloc (.cells v2.cells 107) = w4 at *
      simp -implicitDefEqProofs only [go_sem, seval, g5]
      refine append_ownR et40 hsz (by decide) ho4 (K.mono hr4 fun k _ hk => ⟨by omega, fun e => by have := ho.lt e; omega⟩) hbn (by omega) (by simp only [maxLen]; omega) (by omega) ?_
      intro v' w5 ho5 f5
      have j5 := hJ w4 w5 _ j4 f5 (fun k e => .inr (ho4.lt e).1)
      have h5 := h4.fx f5 (fun e => by have := ho4.lt e; omega) (fun k hk e => by have := ho4.lt e; have := hUlt k hk; omega)
      have eN : IntKind.u64.wrap (((n + 1 : Nat) : Int) - 1) = (n : Int) := by rw [u64_nat (by omega) (by omega)]; omega
      simp -implicitDefEqProofs only [go_sem, seval, g0, g1, g5, g6, eN]
      refine ⟨n, by omega, n, xs ++ [(one s').1], (one s').2, v', rfl, by simp -implicitDefEqProofs only [go_sem, seval, g0], by simp -implicitDefEqProofs only [go_sem, seval, g1], by simp -implicitDefEqProofs only [go_sem, seval], by simp -implicitDefEqProofs only [go_sem, seval], ?_, ?_, by simp; omega, ho5, h5, j5, ?_⟩
      · rw [e1]
        simp [rmany, hw]
      · rw [e2]
        simp [rmany, hw]
      · exact ((f2.tr f3).keep kA).new f5 (fun k e hk => by have := ho4.lt e; omega)
    · have z1 : (s'.why == 0) = false := by rw [beq_eq_false_iff_ne]; exact hw
      simp -implicitDefEqProofs only [go_sem, seval, g0, g1, g5, g6, z, z1, hb.cell]
      rw [many_stay hw] at e1 e2
      exact fin (by rw [e1]; simp) (by rw [e2]) ho h2
theorem tHit_calls {α : Type} {K : Kind α} {one : RS → α × RS} {U : Nat → Prop} {J : World → Prop} {w : World} {g : Nat} {s : RS} {F : Nat} {first cap : Array Value} (hsz : K.sz = 2) (hz : 0 < K.sz) (hF : hasBody Try.prog F = true) (hU : ¬ U g)
    (H : One K U g J one F (first ++ #[] ++ cap)) (hJ : ∀ (w1 w2 : World) (m : Nat → Prop), J w1 → Fx m w1 w2 → (∀ k, m k → k = g ∨ w.heap.size ≤ k) → J w2) (j0 : J w) (h : RdS 103 U w g s) (hUlt : ∀ k, U k → k < w.heap.size) :
    callK Try.prog 58 #[.pointer (some (At g 0)), .func (.func F) first cap] w fun v w' => (Kind.list K hz).rep (fun k => w.heap.size ≤ k) w' (rlist one s).1 [v] ∧ RdS 103 U w' g (rlist one s).2 ∧ Fx (only g) w w' :=
  (tHit_own hsz hz hF hU H hJ j0 h hUlt).mono fun v w' k => ⟨k.1.rep hz (fun _ hk => hk) (fun _ hk => hk), k.2⟩
section
variable {U : Nat → Prop} {w : World} {g : Nat} {s : RS}
theorem rgreat_calls (hU : ¬ U g) (h : RdS 103 U w g s) :
    callK Try.prog 46 #[.pointer (some (At g 0))] w fun v w' => v = .int .u64 (rnum 18446744073709551615 s).1 ∧ RdS 103 U w' g (rnum 18446744073709551615 s).2 ∧ Fx (only g) w w' := by
  refine callK_of Try.func46 c46 r46 (by exact Nat.le_of_ble_eq_true rfl) ?_
  rw [m46]
  simp -implicitDefEqProofs only [go_sem, seval]
  refine (num_calls 18446744073709551615 hU h).mono ?_
  rintro v w' ⟨rfl, h', hf⟩
  simp -implicitDefEqProofs only [go_sem, seval]
  exact ⟨by first | rfl | trivial, h', hf⟩
theorem rletter_calls (hU : ¬ U g) (h : RdS 103 U w g s) :
    callK Try.prog 47 #[.pointer (some (At g 0))] w fun v w' => v = .int .u8 (rnum 255 s).1 ∧ RdS 103 U w' g (rnum 255 s).2 ∧ Fx (only g) w w' := by
  refine callK_of Try.func47 c47 r47 (by exact Nat.le_of_ble_eq_true rfl) ?_
  rw [m47]
  simp -implicitDefEqProofs only [go_sem, seval]
  refine (num_calls 255 hU h).mono ?_
  rintro v w' ⟨rfl, h', hf⟩
  have r := rnum_range 255 (by decide) s h.bs
  have e : IntKind.u8.wrap (rnum 255 s).1 = (rnum 255 s).1 := by rw [IntKind.wrap_u8]; omega
  simp -implicitDefEqProofs only [go_sem, seval, e]
  exact ⟨trivial, h', hf⟩
theorem rshort_calls (hU : ¬ U g) (h : RdS 103 U w g s) :
    callK Try.prog 53 #[.pointer (some (At g 0))] w fun v w' => v = .int .u16 (rnum 65535 s).1 ∧ RdS 103 U w' g (rnum 65535 s).2 ∧ Fx (only g) w w' := by
  refine callK_of Try.func53 c53 r53 (by exact Nat.le_of_ble_eq_true rfl) ?_
  rw [m53]
  simp -implicitDefEqProofs only [go_sem, seval]
  refine (num_calls 65535 hU h).mono ?_
  rintro v w' ⟨rfl, h', hf⟩
  have r := rnum_range 65535 (by decide) s h.bs
  have e : IntKind.u16.wrap (rnum 65535 s).1 = (rnum 65535 s).1 := by rw [IntKind.wrap_u16]; omega
  simp -implicitDefEqProofs only [go_sem, seval, e]
  exact ⟨trivial, h', hf⟩

theorem hit_calls (hU : ¬ U g) (hlt : ∀ k, U k → k < w.heap.size) (h : RdS 103 U w g s) :
    callK Try.prog 59 #[.pointer (some (At g 0))] w fun v w' => (∃ cs, v = .agg (List.toArray cs) ∧ kHit.rep (fun k => w.heap.size ≤ k) w' (rhit s).1 cs) ∧ RdS 103 U w' g (rhit s).2 ∧ Fx (only g) w w' := by
  refine callK_of Try.func59 c59 r59 (by exact Nat.le_of_ble_eq_true rfl) ?_
  rw [m59]
  simp -implicitDefEqProofs only [go_sem, seval]
  have kA : Keep w (w.alloc (.cells #[.int .i64 0, .int .u32 0] 107)) := Fx.alloc _ w _
  have hb : Blk _ _ _ _ := Blk.new w 107 #[.int .i64 0, .int .u32 0]
  have h1 := h.keep kA
  have hs := size_alloc w (.cells #[.int .i64 0, .int .u32 0] 107)
  have hg := h.lt
  generalize w.alloc (.cells #[.int .i64 0, .int .u32 0] 107) = w1 at *
  obtain ⟨bx, hbx⟩ : ∃ bx, bx = w.heap.size := ⟨_, rfl⟩
  rw [← hbx] at hb ⊢
  have r1 := rwhole_range (-9223372036854775808) 9223372036854775807 (by decide) (by decide) s
  refine (whole_calls (-9223372036854775808) 9223372036854775807 hU h1).mono ?_
  rintro v w2 ⟨rfl, h2, f2⟩
  have s2 := f2.size
  have hb2 := f2.blk hb (fun e => by have : bx = g := e; omega)
  unfold rhit
  generalize rwhole (-9223372036854775808) 9223372036854775807 s = q at *
  simp -implicitDefEqProofs only [go_sem, seval]
  have r := rnum_range 4294967295 (by decide) q.2 h2.bs
  refine (small_calls hU h2).mono ?_
  rintro v w3 ⟨rfl, h3, f3⟩
  have s3 := f3.size
  have hb3 := f3.blk hb2 (fun e => by have : bx = g := e; omega)
  have S0 := stB (P := Try.prog) (o := 0) sz107 hb3 (by decide)
  have L0 := ldP (P := Try.prog) sh107 hb3 rfl
  simp -implicitDefEqProofs only [go_sem, seval, S0, L0]
  have f5 : Fx (only bx) w3 (putW w3 bx 0 [.int .i64 q.1, .int .u32 (rnum 4294967295 q.2).1]) := Fx.put _ _ _ _ rfl
  refine ⟨⟨_, rfl, ?_⟩, h3.fx f5 (fun e => by have : g = bx := e; omega) (fun k hk e => by have : k = bx := e; have := hlt k hk; omega), ((kA.fx _).tr (f2.tr f3)).new f5 (fun k e hk => by have : k = bx := e; omega)⟩
  exact kHit_mk (x := ⟨q.1, _⟩) (wfI64 r1.1 r1.2) (wfU32 r.1 r.2)
theorem clone_own {A : Option Addr} {c : Nat} {b : List Int} (hbl : b.length ≤ c) (hc : c ≤ maxLen) (hl : b.length ≤ 1000000000) (he : Elems (Kind.int .u8) U w A b) :
    callK Try.prog 21 #[.slice A b.length c] w fun v w' => (kBytesM.rep (fun k => w.heap.size ≤ k) w' b [v] ∧ OwnI 5 .u8 w.heap.size w' v b) ∧ Keep w w' := by
  refine callK_of Try.func21 c21 r21 (by exact Nat.le_of_ble_eq_true rfl) ?_
  rw [m21]
  simp -implicitDefEqProofs only [go_sem, seval]
  refine bin_slnil Try.underlying26 _ _ _ _ _ ?_
  cases A with
  | none =>
    have hb0 : b = [] := by
      cases b with
      | nil => rfl
      | cons x b => obtain ⟨_, e, _⟩ := he 0 x rfl; cases e
    simp -implicitDefEqProofs only [go_sem, seval, Option.isNone_none]
    subst hb0
    exact ⟨⟨nil_rep _ _, OwnI.nil _ _ _ _⟩, Fx.refl _ _⟩
  | some ad =>
    simp -implicitDefEqProofs only [go_sem, seval, Option.isNone_some]
    refine bsl_none et26 ?_
    have o1 : OwnI 5 .u8 w.heap.size _ _ _ := OwnI.new w 5 .u8 [] (Nat.le_refl _) (by simp)
    have k1 : Keep w (w.alloc (.cells #[] 5)) := Fx.alloc _ _ _
    have s1 := size_alloc w (.cells #[] 5)
    simp only [List.map_nil, List.length_nil] at o1
    have he1 := he.keep k1
    generalize w.alloc (.cells #[] 5) = w1 at *
    simp -implicitDefEqProofs only [go_sem, seval]
    refine append_own ie8 (by decide) o1 he1.rd (by rw [List.length_nil]; omega) (by omega) ?_
    intro v4 w4 o4 hf _
    rw [List.nil_append] at o4
    simp -implicitDefEqProofs only [go_sem, seval]
    have k4 := k1.new hf (fun k e hk => by have := (o1.lt e).1; omega)
    refine ⟨⟨?_, o4⟩, k4⟩
    obtain ⟨A4, c4, rfl, hc4, hr4⟩ := o4.slice
    have hc4m : c4 ≤ maxLen := by
      rcases o4.2 with ⟨hv, _⟩ | ⟨g', cap, cur, hv, _, _, hcc, hmm, _⟩
      · have := (Value.slice.inj hv).2.2; omega
      · have := (Value.slice.inj hv).2.2; omega
    exact ⟨A4, c4, rfl, hc4, hc4m, elems_of hr4 (fun ad' e hne => by
      subst e
      exact (o4.lt rfl).1) (fun x hx => u8_wf (he.bs x hx).1 (he.bs x hx).2)⟩
theorem clone_calls {A : Option Addr} {c : Nat} {b : List Int} (hbl : b.length ≤ c) (hc : c ≤ maxLen) (hl : b.length ≤ 1000000000) (he : Elems (Kind.int .u8) U w A b) :
    callK Try.prog 21 #[.slice A b.length c] w fun v w' => kBytesM.rep (fun k => w.heap.size ≤ k) w' b [v] ∧ Keep w w' :=
  (clone_own hbl hc hl he).mono fun v w' k => ⟨k.1.1, k.2⟩
theorem rcut_len (s : RS) (hb : Bs s.b) : (rcut s).1.length ≤ 4096 := by
  have r := rnum_range 4096 (by decide) s hb
  unfold rcut
  split
  · simp
  · simp only [List.length_take]; omega
theorem bytesM_own (hU : ¬ U g) (hlt : ∀ k, U k → k < w.heap.size) (h : RdS 103 U w g s) :
    callK Try.prog 55 #[.pointer (some (At g 0))] w fun v w' => (kBytesM.rep (fun k => w.heap.size ≤ k) w' (rcut s).1 [v] ∧ OwnI 5 .u8 w.heap.size w' v (rcut s).1) ∧ RdS 103 U w' g (rcut s).2 ∧ Fx (only g) w w' := by
  refine callK_of Try.func55 c55 r55 (by exact Nat.le_of_ble_eq_true rfl) ?_
  rw [m55]
  simp -implicitDefEqProofs only [go_sem, seval]
  have hl := rcut_len s h.bs
  refine (cut_calls hU h).mono ?_
  rintro v w1 ⟨⟨A, c, rfl, hlc, hcm, he⟩, h1, f1⟩
  have s1 := f1.size
  simp -implicitDefEqProofs only [go_sem, seval]
  refine (clone_own hlc hcm (by omega) he).mono ?_
  rintro v w2 ⟨⟨hr, ho⟩, k2⟩
  simp -implicitDefEqProofs only [go_sem, seval]
  exact ⟨⟨kBytesM.mono hr (fun k _ hk => by omega), ho.lower (by omega)⟩, h1.keep k2, f1.keep k2⟩
theorem bytesM_calls (hU : ¬ U g) (hlt : ∀ k, U k → k < w.heap.size) (h : RdS 103 U w g s) :
    callK Try.prog 55 #[.pointer (some (At g 0))] w fun v w' => kBytesM.rep (fun k => w.heap.size ≤ k) w' (rcut s).1 [v] ∧ RdS 103 U w' g (rcut s).2 ∧ Fx (only g) w w' :=
  (bytesM_own hU hlt h).mono fun v w' k => ⟨k.1.1, k.2⟩
theorem tChanges_calls (hU : ¬ U g) (hlt : ∀ k, U k → k < w.heap.size) (h : RdS 103 U w g s) :
    callK Try.prog 50 #[.pointer (some (At g 0)), .func (.func 51) #[.pointer (some (At g 0))] #[]] w fun v w' => kChanges.rep (fun k => w.heap.size ≤ k) w' (rchanges s).1 [v] ∧ RdS 103 U w' g (rchanges s).2 ∧ Fx (only g) w w' := by
  refine tChange_calls (K := kChange) (J := fun w' => w.heap.size ≤ w'.heap.size) (one := rchange) rfl (Nat.succ_pos 3) hb51 hU ?_ ?_ (Nat.le_refl _) h hlt
  · intro w2 s2 j2 h2
    refine (change_calls hU (fun k hk => by have := hlt k hk; omega) h2).mono ?_
    rintro v w3 ⟨⟨cs, rfl, hr⟩, h3, f3⟩
    exact ⟨hr, h3, f3⟩
  · intro w2 w3 m j f _
    have := f.size
    omega
theorem tItems_calls (hU : ¬ U g) (hlt : ∀ k, U k → k < w.heap.size) (h : RdS 103 U w g s) :
    callK Try.prog 56 #[.pointer (some (At g 0)), .func (.func 57) #[.pointer (some (At g 0))] #[]] w fun v w' => kItems.rep (fun k => w.heap.size ≤ k) w' (ritems s).1 [v] ∧ RdS 103 U w' g (ritems s).2 ∧ Fx (only g) w w' := by
  refine tItem_calls (K := kItem) (J := fun w' => w.heap.size ≤ w'.heap.size) (one := ritem) rfl (Nat.succ_pos 2) hb57 hU ?_ ?_ (Nat.le_refl _) h hlt
  · intro w2 s2 j2 h2
    refine (item_calls hU (fun k hk => by have := hlt k hk; omega) h2).mono ?_
    rintro v w3 ⟨⟨v1, v2, rfl, hr⟩, h3, f3⟩
    exact ⟨hr, h3, f3⟩
  · intro w2 w3 m j f _
    have := f.size
    omega
theorem tHits_calls (hU : ¬ U g) (hlt : ∀ k, U k → k < w.heap.size) (h : RdS 103 U w g s) :
    callK Try.prog 58 #[.pointer (some (At g 0)), .func (.func 59) #[.pointer (some (At g 0))] #[]] w fun v w' => kHits.rep (fun k => w.heap.size ≤ k) w' (rhits s).1 [v] ∧ RdS 103 U w' g (rhits s).2 ∧ Fx (only g) w w' := by
  refine tHit_calls (K := kHit) (J := fun w' => w.heap.size ≤ w'.heap.size) (one := rhit) rfl (Nat.succ_pos 1) hb59 hU ?_ ?_ (Nat.le_refl _) h hlt
  · intro w2 s2 j2 h2
    refine (hit_calls hU (fun k hk => by have := hlt k hk; omega) h2).mono ?_
    rintro v w3 ⟨⟨cs, rfl, hr⟩, h3, f3⟩
    exact ⟨hr, h3, f3⟩
  · intro w2 w3 m j f _
    have := f.size
    omega
theorem conf_calls (hU : ¬ U g) (hlt : ∀ k, U k → k < w.heap.size) (h : RdS 103 U w g s) :
    callK Try.prog 49 #[.pointer (some (At g 0))] w fun v w' => (∃ cs, v = .agg (List.toArray cs) ∧ kConf.rep (fun k => w.heap.size ≤ k) w' (rconf s).1 cs) ∧ RdS 103 U w' g (rconf s).2 ∧ Fx (only g) w w' := by
  refine callK_of Try.func49 c49 r49 (by exact Nat.le_of_ble_eq_true rfl) ?_
  rw [m49]
  simp -implicitDefEqProofs only [go_sem, seval]
  have kA : Keep w (w.alloc (.cells #[.string ⟨#[]⟩, .int .u8 0, .int .u8 0, .bool false, .int .u8 0, .int .u16 0] 33)) := Fx.alloc _ w _
  have hb : Blk _ _ _ _ := Blk.new w 33 #[.string ⟨#[]⟩, .int .u8 0, .int .u8 0, .bool false, .int .u8 0, .int .u16 0]
  have h1 := h.keep kA
  have hs := size_alloc w (.cells #[.string ⟨#[]⟩, .int .u8 0, .int .u8 0, .bool false, .int .u8 0, .int .u16 0] 33)
  have hg := h.lt
  generalize w.alloc (.cells #[.string ⟨#[]⟩, .int .u8 0, .int .u8 0, .bool false, .int .u8 0, .int .u16 0] 33) = w1 at *
  obtain ⟨bx, hbx⟩ : ∃ bx, bx = w.heap.size := ⟨_, rfl⟩
  rw [← hbx] at hb ⊢
  unfold rconf
  simp only
  have hbg : ¬ only g bx := fun e => by have : bx = g := e; omega
  refine (string_calls hU h1).mono ?_
  rintro v w2 ⟨rfl, hsz, h2, f2⟩
  generalize rtext s = q1 at *
  simp -implicitDefEqProofs only [go_sem, seval]
  have r2 := rnum_range 255 (by decide) q1.2 h2.bs
  refine (rletter_calls hU h2).mono ?_
  rintro v w3 ⟨rfl, h3, f3⟩
  generalize rnum 255 q1.2 = q2 at *
  simp -implicitDefEqProofs only [go_sem, seval]
  have r3 := rnum_range 1 (by decide) q2.2 h3.bs
  refine (num_calls 1 hU h3).mono ?_
  rintro v w4 ⟨rfl, h4, f4⟩
  generalize rnum 1 q2.2 = q3 at *
  have e3 : IntKind.u8.wrap q3.1 = q3.1 := by rw [IntKind.wrap_u8]; omega
  simp -implicitDefEqProofs only [go_sem, seval, e3]
  refine (flag_calls hU h4).mono ?_
  rintro v w5 ⟨rfl, h5, f5⟩
  generalize rflag q3.2 = q4 at *
  simp -implicitDefEqProofs only [go_sem, seval]
  have r5 := rnum_range 255 (by decide) q4.2 h5.bs
  refine (rletter_calls hU h5).mono ?_
  rintro v w6 ⟨rfl, h6, f6⟩
  generalize rnum 255 q4.2 = q5 at *
  simp -implicitDefEqProofs only [go_sem, seval]
  have r6 := rnum_range 65535 (by decide) q5.2 h6.bs
  refine (rshort_calls hU h6).mono ?_
  rintro v w7 ⟨rfl, h7, f7⟩
  generalize rnum 65535 q5.2 = q6 at *
  have ff := ((f2.tr f3).tr (f4.tr f5)).tr (f6.tr f7)
  have s7 := ff.size
  have hb7 := ff.blk hb hbg
  have S0 := stB (P := Try.prog) (o := 0) sz33 hb7 (by decide)
  have L0 := ldP (P := Try.prog) sh33 hb7 rfl
  simp -implicitDefEqProofs only [go_sem, seval, S0, L0]
  have f8 : Fx (only bx) w7 (putW w7 bx 0 [.string q1.1, .int .u8 q2.1, .int .u8 q3.1, .bool q4.1, .int .u8 q5.1, .int .u16 q6.1]) := Fx.put _ _ _ _ rfl
  refine ⟨⟨_, rfl, ?_⟩, h7.fx f8 (fun e => by have : g = bx := e; omega) (fun k hk e => by have : k = bx := e; have := hlt k hk; omega), ((kA.fx _).tr ff).new f8 (fun k e hk => by have : k = bx := e; omega)⟩
  exact ⟨[_], _, rfl, ⟨rfl, hsz⟩, [_], _, rfl, ⟨rfl, u8_wf r2.1 r2.2⟩, [_], _, rfl, ⟨rfl, u8_wf r3.1 (Int.le_trans r3.2 (by decide))⟩, [_], _, rfl, rfl, [_], _, rfl, ⟨rfl, u8_wf r5.1 r5.2⟩, rfl, wfU16 r6.1 r6.2⟩
/-- The two lists of numbers in a message: which has been read stands in memory of the call's own. -/
def Owns (w w' : World) (bx : Nat) (f : Int) (x : Msg) : Prop := (f ≠ 118 → w'.cell? (At bx 15) = w.cell? (At bx 15)) ∧ (f = 118 → ∃ v, w'.cell? (At bx 15) = some v ∧ OwnI 21 .i32 w.heap.size w' v x.vec) ∧
  (f ≠ 98 → w'.cell? (At bx 23) = w.cell? (At bx 23)) ∧ (f = 98 → ∃ v, w'.cell? (At bx 23) = some v ∧ OwnI 5 .u8 w.heap.size w' v x.bytes)
theorem rfield_own {V : Nat → Prop} {lo bx : Nat} {x : Msg} {f : Int} (hf : f = 114 ∨ f = 99 ∨ f = 116 ∨ f = 101 ∨ f = 110 ∨ f = 78 ∨ f = 67 ∨ f = 76 ∨ f = 105 ∨ f = 118 ∨ f = 107 ∨ f = 119 ∨ f = 102 ∨ f = 117 ∨ f = 112 ∨ f = 98 ∨ f = 86 ∨ f = 83 ∨ f = 73 ∨ f = 72) (hM : MsgAt 42 V w bx x) (hV : ∀ k, V k → lo ≤ k ∧ k ≠ g ∧ k ≠ bx) (hnew : ∀ k, w.heap.size ≤ k → V k) (hne : bx ≠ g) (hlo : lo ≤ w.heap.size) (hUlo : ∀ k, U k → k < lo) (hbl : lo ≤ bx) (hgl : lo ≤ g) (h : RdS 103 U w g s) :
    callK Try.prog 32 #[.pointer (some (At g 0)), .int .i32 f, .pointer (some (At bx 0))] w fun v w' => v = .tuple #[] ∧ MsgAt 42 V w' bx (rfieldP f (x, s)).1 ∧ RdS 103 U w' g (rfieldP f (x, s)).2 ∧ Fx (fun k => k = g ∨ k = bx) w w' ∧ Owns w w' bx f (rfieldP f (x, s)).1 := by
  refine callK_of Try.func32 c32 r32 (by exact Nat.le_of_ble_eq_true rfl) ?_
  rw [m32]
  have hg := h.lt
  have hbx := hM.lt
  have hbg : ¬ only g bx := fun e => hne e
  have hU : ¬ U g := fun e => by have := hUlo g e; omega
  have hlt : ∀ k, U k → k < w.heap.size := fun k hk => by have := hUlo k hk; omega
  have new : ∀ {w2 : World} (k : Nat), k < w2.heap.size → w.heap.size ≤ k → V k := fun k _ hk => hnew k hk
  rcases hf with rfl | rfl | rfl | rfl | rfl | rfl | rfl | rfl | rfl | rfl | rfl | rfl | rfl | rfl | rfl | rfl | rfl | rfl | rfl | rfl
  · simp -implicitDefEqProofs only [go_sem, seval, Int.reduceBEq]
    refine (small_calls hU h).mono ?_
    rintro v w2 ⟨rfl, h2, f2⟩
    have r := rnum_range 4294967295 (by decide) s h.bs
    obtain ⟨_, hc, hfz, _⟩ := (hM.fx f2 hbg (fun k hk _ e => by have := hV k hk; have : k = g := e; omega)).cell lnReq rfl
    simp -implicitDefEqProofs only [go_sem, seval, hc, hfz]
    have f3 : ∀ u, Fx (only bx) w2 (w2.setCell (At bx 1) u) := fun u => Fx.set _ _ _ rfl
    refine ⟨by first | rfl | trivial, (hM.fx f2 hbg (fun k hk _ e => by have := hV k hk; have : k = g := e; omega)).set lnReq (fun e => (hV bx e).2.2 rfl) ⟨rfl, wfU32 r.1 r.2⟩ (by decide), h2.fx (f3 _) (fun e => by have : g = bx := e; omega) (fun k hk e => by have := hUlo k hk; have : k = bx := e; omega), (f2.weaken fun k _ e => .inl e).tr (Fx.set _ _ _ (.inr rfl)), ⟨fun _ => (cell_set_ne _ _ (by decide)).trans (cell_fx hM f2 hbg 15), fun e => absurd e (by decide), fun _ => (cell_set_ne _ _ (by decide)).trans (cell_fx hM f2 hbg 23), fun e => absurd e (by decide)⟩⟩
  · simp -implicitDefEqProofs only [go_sem, seval, Int.reduceBEq]
    refine (small_calls hU h).mono ?_
    rintro v w2 ⟨rfl, h2, f2⟩
    have r := rnum_range 4294967295 (by decide) s h.bs
    obtain ⟨_, hc, hfz, _⟩ := (hM.fx f2 hbg (fun k hk _ e => by have := hV k hk; have : k = g := e; omega)).cell lnCaps rfl
    simp -implicitDefEqProofs only [go_sem, seval, hc, hfz]
    have f3 : ∀ u, Fx (only bx) w2 (w2.setCell (At bx 2) u) := fun u => Fx.set _ _ _ rfl
    refine ⟨by first | rfl | trivial, (hM.fx f2 hbg (fun k hk _ e => by have := hV k hk; have : k = g := e; omega)).set lnCaps (fun e => (hV bx e).2.2 rfl) ⟨rfl, wfU32 r.1 r.2⟩ (by decide), h2.fx (f3 _) (fun e => by have : g = bx := e; omega) (fun k hk e => by have := hUlo k hk; have : k = bx := e; omega), (f2.weaken fun k _ e => .inl e).tr (Fx.set _ _ _ (.inr rfl)), ⟨fun _ => (cell_set_ne _ _ (by decide)).trans (cell_fx hM f2 hbg 15), fun e => absurd e (by decide), fun _ => (cell_set_ne _ _ (by decide)).trans (cell_fx hM f2 hbg 23), fun e => absurd e (by decide)⟩⟩
  · simp -implicitDefEqProofs only [go_sem, seval, Int.reduceBEq]
    refine (rgreat_calls hU h).mono ?_
    rintro v w2 ⟨rfl, h2, f2⟩
    have r := rnum_range 18446744073709551615 (by decide) s h.bs
    obtain ⟨_, hc, hfz, _⟩ := (hM.fx f2 hbg (fun k hk _ e => by have := hV k hk; have : k = g := e; omega)).cell lnToken rfl
    simp -implicitDefEqProofs only [go_sem, seval, hc, hfz]
    have f3 : ∀ u, Fx (only bx) w2 (w2.setCell (At bx 3) u) := fun u => Fx.set _ _ _ rfl
    refine ⟨by first | rfl | trivial, (hM.fx f2 hbg (fun k hk _ e => by have := hV k hk; have : k = g := e; omega)).set lnToken (fun e => (hV bx e).2.2 rfl) ⟨rfl, wfU64 r.1 r.2⟩ (by decide), h2.fx (f3 _) (fun e => by have : g = bx := e; omega) (fun k hk e => by have := hUlo k hk; have : k = bx := e; omega), (f2.weaken fun k _ e => .inl e).tr (Fx.set _ _ _ (.inr rfl)), ⟨fun _ => (cell_set_ne _ _ (by decide)).trans (cell_fx hM f2 hbg 15), fun e => absurd e (by decide), fun _ => (cell_set_ne _ _ (by decide)).trans (cell_fx hM f2 hbg 23), fun e => absurd e (by decide)⟩⟩
  · simp -implicitDefEqProofs only [go_sem, seval, Int.reduceBEq]
    refine (rletter_calls hU h).mono ?_
    rintro v w2 ⟨rfl, h2, f2⟩
    have r := rnum_range 255 (by decide) s h.bs
    obtain ⟨_, hc, hfz, _⟩ := (hM.fx f2 hbg (fun k hk _ e => by have := hV k hk; have : k = g := e; omega)).cell lnCode rfl
    simp -implicitDefEqProofs only [go_sem, seval, hc, hfz]
    have f3 : ∀ u, Fx (only bx) w2 (w2.setCell (At bx 4) u) := fun u => Fx.set _ _ _ rfl
    refine ⟨by first | rfl | trivial, (hM.fx f2 hbg (fun k hk _ e => by have := hV k hk; have : k = g := e; omega)).set lnCode (fun e => (hV bx e).2.2 rfl) ⟨rfl, u8_wf r.1 r.2⟩ (by decide), h2.fx (f3 _) (fun e => by have : g = bx := e; omega) (fun k hk e => by have := hUlo k hk; have : k = bx := e; omega), (f2.weaken fun k _ e => .inl e).tr (Fx.set _ _ _ (.inr rfl)), ⟨fun _ => (cell_set_ne _ _ (by decide)).trans (cell_fx hM f2 hbg 15), fun e => absurd e (by decide), fun _ => (cell_set_ne _ _ (by decide)).trans (cell_fx hM f2 hbg 23), fun e => absurd e (by decide)⟩⟩
  · simp -implicitDefEqProofs only [go_sem, seval, Int.reduceBEq]
    refine (small_calls hU h).mono ?_
    rintro v w2 ⟨rfl, h2, f2⟩
    have r := rnum_range 4294967295 (by decide) s h.bs
    obtain ⟨_, hc, hfz, _⟩ := (hM.fx f2 hbg (fun k hk _ e => by have := hV k hk; have : k = g := e; omega)).cell lnN rfl
    simp -implicitDefEqProofs only [go_sem, seval, hc, hfz]
    have f3 : ∀ u, Fx (only bx) w2 (w2.setCell (At bx 5) u) := fun u => Fx.set _ _ _ rfl
    refine ⟨by first | rfl | trivial, (hM.fx f2 hbg (fun k hk _ e => by have := hV k hk; have : k = g := e; omega)).set lnN (fun e => (hV bx e).2.2 rfl) ⟨rfl, wfU32 r.1 r.2⟩ (by decide), h2.fx (f3 _) (fun e => by have : g = bx := e; omega) (fun k hk e => by have := hUlo k hk; have : k = bx := e; omega), (f2.weaken fun k _ e => .inl e).tr (Fx.set _ _ _ (.inr rfl)), ⟨fun _ => (cell_set_ne _ _ (by decide)).trans (cell_fx hM f2 hbg 15), fun e => absurd e (by decide), fun _ => (cell_set_ne _ _ (by decide)).trans (cell_fx hM f2 hbg 23), fun e => absurd e (by decide)⟩⟩
  · simp -implicitDefEqProofs only [go_sem, seval, Int.reduceBEq]
    refine (string_calls hU h).mono ?_
    rintro v w2 ⟨rfl, hsz, h2, f2⟩
    obtain ⟨_, hc, hfz, _⟩ := (hM.fx f2 hbg (fun k hk _ e => by have := hV k hk; have : k = g := e; omega)).cell lnName rfl
    simp -implicitDefEqProofs only [go_sem, seval, hc, hfz]
    have f3 : ∀ u, Fx (only bx) w2 (w2.setCell (At bx 6) u) := fun u => Fx.set _ _ _ rfl
    refine ⟨by first | rfl | trivial, (hM.fx f2 hbg (fun k hk _ e => by have := hV k hk; have : k = g := e; omega)).set lnName (fun e => (hV bx e).2.2 rfl) ⟨rfl, hsz⟩ (by decide), h2.fx (f3 _) (fun e => by have : g = bx := e; omega) (fun k hk e => by have := hUlo k hk; have : k = bx := e; omega), (f2.weaken fun k _ e => .inl e).tr (Fx.set _ _ _ (.inr rfl)), ⟨fun _ => (cell_set_ne _ _ (by decide)).trans (cell_fx hM f2 hbg 15), fun e => absurd e (by decide), fun _ => (cell_set_ne _ _ (by decide)).trans (cell_fx hM f2 hbg 23), fun e => absurd e (by decide)⟩⟩
  · simp -implicitDefEqProofs only [go_sem, seval, Int.reduceBEq]
    refine (conf_calls hU hlt h).mono ?_
    rintro v w2 ⟨⟨vs, rfl, hr⟩, h2, f2⟩
    have hM2 := hM.fx f2 hbg (fun k hk _ e => by have := hV k hk; have : k = g := e; omega)
    obtain ⟨cs, hb2, hrep2⟩ := id hM2
    have hcl : cs.length = 28 := kMsg.len hrep2
    have hvl : vs.length = 6 := kConf.len hr
    have S0 := stB (P := Try.prog) (o := 7) sz33 hb2 (by simp [hcl]) vs hvl (allOne_of (kConf.one hr))
    simp -implicitDefEqProofs only [go_sem, seval, S0]
    have f3 : Fx (only bx) w2 (putW w2 bx 7 vs) := Fx.put _ _ _ _ rfl
    refine ⟨by first | rfl | trivial, ⟨_, hb2.put 7 vs, kMsg.fx (lnConf.put hrep2 (kConf.mono hr new)) f3 (fun k hk e => by have := hV k hk; have : k = bx := e; omega)⟩, h2.fx f3 (fun e => by have : g = bx := e; omega) (fun k hk e => by have := hUlo k hk; have : k = bx := e; omega), (f2.weaken fun k _ e => .inl e).tr (Fx.put _ _ _ _ (.inr rfl)), ⟨fun _ => (put_cell hb2 (by omega) (by rw [hvl]; decide)).trans (cell_fx hM f2 hbg 15), fun e => absurd e (by decide), fun _ => (put_cell hb2 (by omega) (by rw [hvl]; decide)).trans (cell_fx hM f2 hbg 23), fun e => absurd e (by decide)⟩⟩
  · simp -implicitDefEqProofs only [go_sem, seval, Int.reduceBEq]
    refine (tChanges_calls hU hlt h).mono ?_
    rintro v w2 ⟨hr, h2, f2⟩
    have ov := kChanges.one hr v (by simp)
    obtain ⟨_, hc, hfz, _⟩ := (hM.fx f2 hbg (fun k hk _ e => by have := hV k hk; have : k = g := e; omega)).cell lnChanges rfl
    simp -implicitDefEqProofs only [go_sem, seval, hc, hfz, ov]
    have f3 : ∀ u, Fx (only bx) w2 (w2.setCell (At bx 13) u) := fun u => Fx.set _ _ _ rfl
    refine ⟨by first | rfl | trivial, (hM.fx f2 hbg (fun k hk _ e => by have := hV k hk; have : k = g := e; omega)).set lnChanges (fun e => (hV bx e).2.2 rfl) (kChanges.mono hr new) (by decide), h2.fx (f3 _) (fun e => by have : g = bx := e; omega) (fun k hk e => by have := hUlo k hk; have : k = bx := e; omega), (f2.weaken fun k _ e => .inl e).tr (Fx.set _ _ _ (.inr rfl)), ⟨fun _ => (cell_set_ne _ _ (by decide)).trans (cell_fx hM f2 hbg 15), fun e => absurd e (by decide), fun _ => (cell_set_ne _ _ (by decide)).trans (cell_fx hM f2 hbg 23), fun e => absurd e (by decide)⟩⟩
  · simp -implicitDefEqProofs only [go_sem, seval, Int.reduceBEq]
    refine (small_calls hU h).mono ?_
    rintro v w2 ⟨rfl, h2, f2⟩
    have r := rnum_range 4294967295 (by decide) s h.bs
    obtain ⟨_, hc, hfz, _⟩ := (hM.fx f2 hbg (fun k hk _ e => by have := hV k hk; have : k = g := e; omega)).cell lnId rfl
    simp -implicitDefEqProofs only [go_sem, seval, hc, hfz]
    have f3 : ∀ u, Fx (only bx) w2 (w2.setCell (At bx 14) u) := fun u => Fx.set _ _ _ rfl
    refine ⟨by first | rfl | trivial, (hM.fx f2 hbg (fun k hk _ e => by have := hV k hk; have : k = g := e; omega)).set lnId (fun e => (hV bx e).2.2 rfl) ⟨rfl, wfU32 r.1 r.2⟩ (by decide), h2.fx (f3 _) (fun e => by have : g = bx := e; omega) (fun k hk e => by have := hUlo k hk; have : k = bx := e; omega), (f2.weaken fun k _ e => .inl e).tr (Fx.set _ _ _ (.inr rfl)), ⟨fun _ => (cell_set_ne _ _ (by decide)).trans (cell_fx hM f2 hbg 15), fun e => absurd e (by decide), fun _ => (cell_set_ne _ _ (by decide)).trans (cell_fx hM f2 hbg 23), fun e => absurd e (by decide)⟩⟩
  · simp -implicitDefEqProofs only [go_sem, seval, Int.reduceBEq]
    refine (vec_own hU hlt h).mono ?_
    rintro v w2 ⟨⟨hr, ho⟩, h2, f2⟩
    have ov := kVec.one hr v (by simp)
    obtain ⟨_, hc, hfz, _⟩ := (hM.fx f2 hbg (fun k hk _ e => by have := hV k hk; have : k = g := e; omega)).cell lnVec rfl
    simp -implicitDefEqProofs only [go_sem, seval, hc, hfz, ov]
    have f3 : ∀ u, Fx (only bx) w2 (w2.setCell (At bx 15) u) := fun u => Fx.set _ _ _ rfl
    refine ⟨by first | rfl | trivial, (hM.fx f2 hbg (fun k hk _ e => by have := hV k hk; have : k = g := e; omega)).set lnVec (fun e => (hV bx e).2.2 rfl) (kVec.mono hr new) (by decide), h2.fx (f3 _) (fun e => by have : g = bx := e; omega) (fun k hk e => by have := hUlo k hk; have : k = bx := e; omega), (f2.weaken fun k _ e => .inl e).tr (Fx.set _ _ _ (.inr rfl)), ⟨fun e => absurd rfl e, fun _ => ⟨v, set_cell (hM.fx f2 hbg (fun k hk _ e => by have := hV k hk; have : k = g := e; omega)) (by decide) v, ho.fx (f3 _) (fun k hk e => by have := (ho.lt hk).1; have : k = bx := e; omega)⟩, fun _ => (cell_set_ne _ _ (by decide)).trans (cell_fx hM f2 hbg 23), fun e => absurd e (by decide)⟩⟩
  · simp -implicitDefEqProofs only [go_sem, seval, Int.reduceBEq]
    refine (rshort_calls hU h).mono ?_
    rintro v w2 ⟨rfl, h2, f2⟩
    have r := rnum_range 65535 (by decide) s h.bs
    obtain ⟨_, hc, hfz, _⟩ := (hM.fx f2 hbg (fun k hk _ e => by have := hV k hk; have : k = g := e; omega)).cell lnK rfl
    simp -implicitDefEqProofs only [go_sem, seval, hc, hfz]
    have f3 : ∀ u, Fx (only bx) w2 (w2.setCell (At bx 16) u) := fun u => Fx.set _ _ _ rfl
    refine ⟨by first | rfl | trivial, (hM.fx f2 hbg (fun k hk _ e => by have := hV k hk; have : k = g := e; omega)).set lnK (fun e => (hV bx e).2.2 rfl) ⟨rfl, wfU16 r.1 r.2⟩ (by decide), h2.fx (f3 _) (fun e => by have : g = bx := e; omega) (fun k hk e => by have := hUlo k hk; have : k = bx := e; omega), (f2.weaken fun k _ e => .inl e).tr (Fx.set _ _ _ (.inr rfl)), ⟨fun _ => (cell_set_ne _ _ (by decide)).trans (cell_fx hM f2 hbg 15), fun e => absurd e (by decide), fun _ => (cell_set_ne _ _ (by decide)).trans (cell_fx hM f2 hbg 23), fun e => absurd e (by decide)⟩⟩
  · simp -implicitDefEqProofs only [go_sem, seval, Int.reduceBEq]
    refine (rshort_calls hU h).mono ?_
    rintro v w2 ⟨rfl, h2, f2⟩
    have r := rnum_range 65535 (by decide) s h.bs
    obtain ⟨_, hc, hfz, _⟩ := (hM.fx f2 hbg (fun k hk _ e => by have := hV k hk; have : k = g := e; omega)).cell lnWidth rfl
    simp -implicitDefEqProofs only [go_sem, seval, hc, hfz]
    have f3 : ∀ u, Fx (only bx) w2 (w2.setCell (At bx 17) u) := fun u => Fx.set _ _ _ rfl
    refine ⟨by first | rfl | trivial, (hM.fx f2 hbg (fun k hk _ e => by have := hV k hk; have : k = g := e; omega)).set lnWidth (fun e => (hV bx e).2.2 rfl) ⟨rfl, wfU16 r.1 r.2⟩ (by decide), h2.fx (f3 _) (fun e => by have : g = bx := e; omega) (fun k hk e => by have := hUlo k hk; have : k = bx := e; omega), (f2.weaken fun k _ e => .inl e).tr (Fx.set _ _ _ (.inr rfl)), ⟨fun _ => (cell_set_ne _ _ (by decide)).trans (cell_fx hM f2 hbg 15), fun e => absurd e (by decide), fun _ => (cell_set_ne _ _ (by decide)).trans (cell_fx hM f2 hbg 23), fun e => absurd e (by decide)⟩⟩
  · simp -implicitDefEqProofs only [go_sem, seval, Int.reduceBEq]
    have hg2 := h.lt
    refine (texts_calls hU hlt h).mono ?_
    rintro v1 w2 ⟨hr1, h2, f2⟩
    have s2 := f2.size
    simp -implicitDefEqProofs only [go_sem, seval]
    refine (texts_calls hU (fun k hk => by have := hlt k hk; omega) h2).mono ?_
    rintro v2 w3 ⟨hr2, h3, f3⟩
    have s3 := f3.size
    simp -implicitDefEqProofs only [go_sem, seval]
    refine (texts_calls hU (fun k hk => by have := hlt k hk; omega) h3).mono ?_
    rintro v3 w4 ⟨hr3, h4, f4⟩
    have s4 := f4.size
    have ff := f2.tr (f3.tr f4)
    have hM2 := hM.fx ff hbg (fun k hk _ e => by have := hV k hk; have : k = g := e; omega)
    obtain ⟨cs, hb2, hrep2⟩ := id hM2
    have hcl : cs.length = 28 := kMsg.len hrep2
    have o1 := kTexts.one hr1 v1 (by simp)
    have o2 := kTexts.one hr2 v2 (by simp)
    have o3 := kTexts.one hr3 v3 (by simp)
    have hr : kFilter.rep (fun k => w.heap.size ≤ k) w4 (rfilter s).1 [v1, v2, v3] := by
      refine ⟨[v1], [v2, v3], rfl, ?_, [v2], [v3], rfl, ?_, ?_⟩
      · exact kTexts.fx hr1 (f3.tr f4) (fun k hk e => by have : k = g := e; omega)
      · exact kTexts.mono (kTexts.fx hr2 f4 (fun k hk e => by have : k = g := e; omega)) (fun k _ hk => by omega)
      · exact kTexts.mono hr3 (fun k _ hk => by omega)
    have S0 := stB (P := Try.prog) (o := 18) sz38 hb2 (by simp [hcl]) [v1, v2, v3] rfl (allOne_of (kFilter.one hr))
    simp -implicitDefEqProofs only [go_sem, seval, o1, o2, o3, S0]
    have f5 : Fx (only bx) w4 (putW w4 bx 18 [v1, v2, v3]) := Fx.put _ _ _ _ rfl
    refine ⟨by first | rfl | trivial, ⟨_, hb2.put 18 [v1, v2, v3], kMsg.fx (lnFilter.put hrep2 (kFilter.mono hr new)) f5 (fun k hk e => by have := hV k hk; have : k = bx := e; omega)⟩, h4.fx f5 (fun e => by have : g = bx := e; omega) (fun k hk e => by have := hUlo k hk; have : k = bx := e; omega), (ff.weaken fun k _ e => .inl e).tr (Fx.put _ _ _ _ (.inr rfl)), ⟨fun _ => (put_cell hb2 (by omega) (.inl (by decide))).trans (cell_fx hM ff hbg 15), fun e => absurd e (by decide), fun _ => (put_cell hb2 (by omega) (.inr (by show 18 + 3 ≤ 23; decide))).trans (cell_fx hM ff hbg 23), fun e => absurd e (by decide)⟩⟩
  · simp -implicitDefEqProofs only [go_sem, seval, Int.reduceBEq]
    refine (small_calls hU h).mono ?_
    rintro v w2 ⟨rfl, h2, f2⟩
    have r := rnum_range 4294967295 (by decide) s h.bs
    obtain ⟨_, hc, hfz, _⟩ := (hM.fx f2 hbg (fun k hk _ e => by have := hV k hk; have : k = g := e; omega)).cell lnNum rfl
    simp -implicitDefEqProofs only [go_sem, seval, hc, hfz]
    have f3 : ∀ u, Fx (only bx) w2 (w2.setCell (At bx 21) u) := fun u => Fx.set _ _ _ rfl
    refine ⟨by first | rfl | trivial, (hM.fx f2 hbg (fun k hk _ e => by have := hV k hk; have : k = g := e; omega)).set lnNum (fun e => (hV bx e).2.2 rfl) ⟨rfl, wfU32 r.1 r.2⟩ (by decide), h2.fx (f3 _) (fun e => by have : g = bx := e; omega) (fun k hk e => by have := hUlo k hk; have : k = bx := e; omega), (f2.weaken fun k _ e => .inl e).tr (Fx.set _ _ _ (.inr rfl)), ⟨fun _ => (cell_set_ne _ _ (by decide)).trans (cell_fx hM f2 hbg 15), fun e => absurd e (by decide), fun _ => (cell_set_ne _ _ (by decide)).trans (cell_fx hM f2 hbg 23), fun e => absurd e (by decide)⟩⟩
  · simp -implicitDefEqProofs only [go_sem, seval, Int.reduceBEq]
    refine (small_calls hU h).mono ?_
    rintro v w2 ⟨rfl, h2, f2⟩
    have r := rnum_range 4294967295 (by decide) s h.bs
    obtain ⟨_, hc, hfz, _⟩ := (hM.fx f2 hbg (fun k hk _ e => by have := hV k hk; have : k = g := e; omega)).cell lnPage rfl
    simp -implicitDefEqProofs only [go_sem, seval, hc, hfz]
    have f3 : ∀ u, Fx (only bx) w2 (w2.setCell (At bx 22) u) := fun u => Fx.set _ _ _ rfl
    refine ⟨by first | rfl | trivial, (hM.fx f2 hbg (fun k hk _ e => by have := hV k hk; have : k = g := e; omega)).set lnPage (fun e => (hV bx e).2.2 rfl) ⟨rfl, wfU32 r.1 r.2⟩ (by decide), h2.fx (f3 _) (fun e => by have : g = bx := e; omega) (fun k hk e => by have := hUlo k hk; have : k = bx := e; omega), (f2.weaken fun k _ e => .inl e).tr (Fx.set _ _ _ (.inr rfl)), ⟨fun _ => (cell_set_ne _ _ (by decide)).trans (cell_fx hM f2 hbg 15), fun e => absurd e (by decide), fun _ => (cell_set_ne _ _ (by decide)).trans (cell_fx hM f2 hbg 23), fun e => absurd e (by decide)⟩⟩
  · simp -implicitDefEqProofs only [go_sem, seval, Int.reduceBEq]
    refine (bytesM_own hU hlt h).mono ?_
    rintro v w2 ⟨⟨hr, ho⟩, h2, f2⟩
    have ov := kBytesM.one hr v (by simp)
    obtain ⟨_, hc, hfz, _⟩ := (hM.fx f2 hbg (fun k hk _ e => by have := hV k hk; have : k = g := e; omega)).cell lnBytes rfl
    simp -implicitDefEqProofs only [go_sem, seval, hc, hfz, ov]
    have f3 : ∀ u, Fx (only bx) w2 (w2.setCell (At bx 23) u) := fun u => Fx.set _ _ _ rfl
    refine ⟨by first | rfl | trivial, (hM.fx f2 hbg (fun k hk _ e => by have := hV k hk; have : k = g := e; omega)).set lnBytes (fun e => (hV bx e).2.2 rfl) (kBytesM.mono hr new) (by decide), h2.fx (f3 _) (fun e => by have : g = bx := e; omega) (fun k hk e => by have := hUlo k hk; have : k = bx := e; omega), (f2.weaken fun k _ e => .inl e).tr (Fx.set _ _ _ (.inr rfl)), ⟨fun _ => (cell_set_ne _ _ (by decide)).trans (cell_fx hM f2 hbg 15), fun e => absurd e (by decide), fun e => absurd rfl e, fun _ => ⟨v, set_cell (hM.fx f2 hbg (fun k hk _ e => by have := hV k hk; have : k = g := e; omega)) (by decide) v, ho.fx (f3 _) (fun k hk e => by have := (ho.lt hk).1; have : k = bx := e; omega)⟩⟩⟩
  · simp -implicitDefEqProofs only [go_sem, seval, Int.reduceBEq]
    refine (rgreat_calls hU h).mono ?_
    rintro v w2 ⟨rfl, h2, f2⟩
    have r := rnum_range 18446744073709551615 (by decide) s h.bs
    obtain ⟨_, hc, hfz, _⟩ := (hM.fx f2 hbg (fun k hk _ e => by have := hV k hk; have : k = g := e; omega)).cell lnVersion rfl
    simp -implicitDefEqProofs only [go_sem, seval, hc, hfz]
    have f3 : ∀ u, Fx (only bx) w2 (w2.setCell (At bx 24) u) := fun u => Fx.set _ _ _ rfl
    refine ⟨by first | rfl | trivial, (hM.fx f2 hbg (fun k hk _ e => by have := hV k hk; have : k = g := e; omega)).set lnVersion (fun e => (hV bx e).2.2 rfl) ⟨rfl, wfU64 r.1 r.2⟩ (by decide), h2.fx (f3 _) (fun e => by have : g = bx := e; omega) (fun k hk e => by have := hUlo k hk; have : k = bx := e; omega), (f2.weaken fun k _ e => .inl e).tr (Fx.set _ _ _ (.inr rfl)), ⟨fun _ => (cell_set_ne _ _ (by decide)).trans (cell_fx hM f2 hbg 15), fun e => absurd e (by decide), fun _ => (cell_set_ne _ _ (by decide)).trans (cell_fx hM f2 hbg 23), fun e => absurd e (by decide)⟩⟩
  · simp -implicitDefEqProofs only [go_sem, seval, Int.reduceBEq]
    refine (texts_calls hU hlt h).mono ?_
    rintro v w2 ⟨hr, h2, f2⟩
    have ov := kTexts.one hr v (by simp)
    obtain ⟨_, hc, hfz, _⟩ := (hM.fx f2 hbg (fun k hk _ e => by have := hV k hk; have : k = g := e; omega)).cell lnNames rfl
    simp -implicitDefEqProofs only [go_sem, seval, hc, hfz, ov]
    have f3 : ∀ u, Fx (only bx) w2 (w2.setCell (At bx 25) u) := fun u => Fx.set _ _ _ rfl
    refine ⟨by first | rfl | trivial, (hM.fx f2 hbg (fun k hk _ e => by have := hV k hk; have : k = g := e; omega)).set lnNames (fun e => (hV bx e).2.2 rfl) (kTexts.mono hr new) (by decide), h2.fx (f3 _) (fun e => by have : g = bx := e; omega) (fun k hk e => by have := hUlo k hk; have : k = bx := e; omega), (f2.weaken fun k _ e => .inl e).tr (Fx.set _ _ _ (.inr rfl)), ⟨fun _ => (cell_set_ne _ _ (by decide)).trans (cell_fx hM f2 hbg 15), fun e => absurd e (by decide), fun _ => (cell_set_ne _ _ (by decide)).trans (cell_fx hM f2 hbg 23), fun e => absurd e (by decide)⟩⟩
  · simp -implicitDefEqProofs only [go_sem, seval, Int.reduceBEq]
    refine (tItems_calls hU hlt h).mono ?_
    rintro v w2 ⟨hr, h2, f2⟩
    have ov := kItems.one hr v (by simp)
    obtain ⟨_, hc, hfz, _⟩ := (hM.fx f2 hbg (fun k hk _ e => by have := hV k hk; have : k = g := e; omega)).cell lnItems rfl
    simp -implicitDefEqProofs only [go_sem, seval, hc, hfz, ov]
    have f3 : ∀ u, Fx (only bx) w2 (w2.setCell (At bx 26) u) := fun u => Fx.set _ _ _ rfl
    refine ⟨by first | rfl | trivial, (hM.fx f2 hbg (fun k hk _ e => by have := hV k hk; have : k = g := e; omega)).set lnItems (fun e => (hV bx e).2.2 rfl) (kItems.mono hr new) (by decide), h2.fx (f3 _) (fun e => by have : g = bx := e; omega) (fun k hk e => by have := hUlo k hk; have : k = bx := e; omega), (f2.weaken fun k _ e => .inl e).tr (Fx.set _ _ _ (.inr rfl)), ⟨fun _ => (cell_set_ne _ _ (by decide)).trans (cell_fx hM f2 hbg 15), fun e => absurd e (by decide), fun _ => (cell_set_ne _ _ (by decide)).trans (cell_fx hM f2 hbg 23), fun e => absurd e (by decide)⟩⟩
  · simp -implicitDefEqProofs only [go_sem, seval, Int.reduceBEq]
    refine (tHits_calls hU hlt h).mono ?_
    rintro v w2 ⟨hr, h2, f2⟩
    have ov := kHits.one hr v (by simp)
    obtain ⟨_, hc, hfz, _⟩ := (hM.fx f2 hbg (fun k hk _ e => by have := hV k hk; have : k = g := e; omega)).cell lnHits rfl
    simp -implicitDefEqProofs only [go_sem, seval, hc, hfz, ov]
    have f3 : ∀ u, Fx (only bx) w2 (w2.setCell (At bx 27) u) := fun u => Fx.set _ _ _ rfl
    refine ⟨by first | rfl | trivial, (hM.fx f2 hbg (fun k hk _ e => by have := hV k hk; have : k = g := e; omega)).set lnHits (fun e => (hV bx e).2.2 rfl) (kHits.mono hr new) (by decide), h2.fx (f3 _) (fun e => by have : g = bx := e; omega) (fun k hk e => by have := hUlo k hk; have : k = bx := e; omega), (f2.weaken fun k _ e => .inl e).tr (Fx.set _ _ _ (.inr rfl)), ⟨fun _ => (cell_set_ne _ _ (by decide)).trans (cell_fx hM f2 hbg 15), fun e => absurd e (by decide), fun _ => (cell_set_ne _ _ (by decide)).trans (cell_fx hM f2 hbg 23), fun e => absurd e (by decide)⟩⟩
theorem rfield_calls {V : Nat → Prop} {lo bx : Nat} {x : Msg} {f : Int} (hf : f = 114 ∨ f = 99 ∨ f = 116 ∨ f = 101 ∨ f = 110 ∨ f = 78 ∨ f = 67 ∨ f = 76 ∨ f = 105 ∨ f = 118 ∨ f = 107 ∨ f = 119 ∨ f = 102 ∨ f = 117 ∨ f = 112 ∨ f = 98 ∨ f = 86 ∨ f = 83 ∨ f = 73 ∨ f = 72) (hM : MsgAt 42 V w bx x) (hV : ∀ k, V k → lo ≤ k ∧ k ≠ g ∧ k ≠ bx) (hnew : ∀ k, w.heap.size ≤ k → V k) (hne : bx ≠ g) (hlo : lo ≤ w.heap.size) (hUlo : ∀ k, U k → k < lo) (hbl : lo ≤ bx) (hgl : lo ≤ g) (h : RdS 103 U w g s) :
    callK Try.prog 32 #[.pointer (some (At g 0)), .int .i32 f, .pointer (some (At bx 0))] w fun v w' => v = .tuple #[] ∧ MsgAt 42 V w' bx (rfieldP f (x, s)).1 ∧ RdS 103 U w' g (rfieldP f (x, s)).2 ∧ Fx (fun k => k = g ∨ k = bx) w w' :=
  (rfield_own hf hM hV hnew hne hlo hUlo hbl hgl h).mono fun v w' k => ⟨k.1, k.2.1, k.2.2.1, k.2.2.2.1⟩
end
end Go.Proofs.Ytnlibeaainbipaa.F
