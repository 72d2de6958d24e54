/- What is shown of a walk over slots as a function holds of the machine's call: the regions, the code, the call. Conditions: the code was read by the checker. -/
import Derived.Test.YtnoeeiaffnbhcaaMsound
namespace Go.Proofs.Ytnoeeiaffnbhcaa.M
open Go.Proofs.YtnoeeiaffnbhcaaW.PrintLast
variable {P : Program} {n : Nat}

def QA (n : Nat) (Q : Exit → Fr → World → Prop) : Exit → Act → World → Prop
  | .normal, a, w => ∃ f, Sim n a f ∧ Q .normal f w
  | .ret, a, w => ∃ f, Sim n a f ∧ Q .ret f w
  | .exit i, a, w => ∃ f, Sim n a f ∧ Q (.exit i) f w
  | _, _, _ => False

theorem yields_at {all : Array Oper} {a : Act} {f : Fr} (hs : Sim n a f) {j d : Nat} (hd : (all[j]?).bind (·.dst) = some d) : yielded all a.tmps j = match f d with
    | .bool b => some b
    | _ => none := by
  unfold yielded
  rw [hd]
  simp only [Option.bind_some]
  have hg := hs.get d
  rw [Array.getD_eq_getD_getElem?] at hg
  cases h : a.tmps[d]? with
  | none =>
    rw [h] at hg
    rw [← hg]
    rfl
  | some v =>
    rw [h] at hg
    rw [← hg]
    cases v <;> rfl

theorem gd_sound {all : Array Oper} {o : Oper} {a : Act} {f : Fr} {g : Option (Nat × Bool)} (hs : Sim n a f) (hg : gdOf all o.guard = some g) : Region.wanted o (yielded all a.tmps) = gdB f g := by
  unfold gdOf at hg
  unfold Region.wanted
  cases hgu : o.guard with
  | none =>
    rw [hgu] at hg
    cases hg
    rfl
  | some jb =>
    obtain ⟨j, b⟩ := jb
    rw [hgu] at hg
    simp only at hg
    split at hg
    · rename_i d hd
      cases hg
      simp only
      rw [yields_at hs hd]
      unfold gdB
      simp only
      cases f d <;> rfl
    · cases hg

theorem gd_split {b : Bool} {p q : Prop} (h : if b = true then p else q) : (b = true ∧ p) ∨ (b = false ∧ q) := by
  cases b
  · exact .inr ⟨rfl, h⟩
  · exact .inl ⟨rfl, h⟩
theorem miOf_some {all : Array Oper} {o : Oper} {m : MI} (h : miOf P n all o = some m) : dOk n o.dst = true ∧ opOk P o.op = true ∧ gdOf all o.guard = some m.gd ∧ m.dst = o.dst ∧ m.op = o.op ∧ m.ty = o.type := by
  unfold miOf at h
  split at h
  · rename_i hc
    rw [Bool.and_eq_true] at hc
    cases hg : gdOf all o.guard with
    | none => rw [hg] at h; cases h
    | some g =>
      rw [hg] at h
      cases h
      exact ⟨hc.1, hc.2, rfl, rfl, rfl, rfl⟩
  · cases h

theorem RL_sound {all : Array Oper} {K : Fr → World → Prop} {Q : Exit → Act → World → Prop} (hK : ∀ f w a, Sim n a f → K f w → Q .normal a w) :
    ∀ (ops : List Oper) (l : List MI), misOf P n all ops = some l → ∀ (f : Fr) (w : World) (a : Act), Sim n a f → RL P K l f w → wpList P all Q ops a w
  | [], l, hl, f, w, a, hs, h => by
    cases hl
    exact hK f w a hs h
  | o :: r, l, hl, f, w, a, hs, h => by
    unfold misOf at hl
    split at hl
    · rename_i m l' hm hr
      cases hl
      obtain ⟨h1, h2, h3, h4, h5, h6⟩ := miOf_some hm
      unfold RL at h
      rw [h4, h5, h6] at h
      refine wpList_step fun K' hK' => ?_
      rw [gd_sound hs h3]
      split
      · rename_i hw
        rw [if_pos hw] at h
        exact step_sound hs h2 h fun v w' hv => hK' _ _ (RL_sound hK r l' hr _ w' _ (hs.put h1 v) hv)
      · rename_i hw
        rw [if_neg hw] at h
        exact hK' _ _ (RL_sound hK r l' hr _ w _ (hs.put h1 undef) h)
    · cases hl

/-- An operation that comes to one value, and leaves the world, yields it. -/
theorem step_yields {f : Fr} {w : World} {o : Oper} {v : Value} {a : Act} (hs : Sim n a f) (hval : isVal o.op = true) (h : stepK P o.op o.type f w fun u w'' => u = v ∧ w'' = w) : (execOp a.eval o).run P w = .ok (.value v) w := by
  obtain ⟨dst, op, ty, pos, after, guard⟩ := o
  rw [hs.eval]
  obtain ⟨v', w', hr, rfl, rfl⟩ := step_val (dst := dst) (pos := pos) (after := after) (guard := guard) hval h
  exact hr

theorem sliceAt_run {t e : TypeId} {s : Nat} {A : Option Addr} {N c : Nat} {lo hi : Option Value} {l h : Nat} {w : World} (ht : P.underlying t = some (.slice e)) (hs : sizeOf1 P e = some s) (hl : bndV 0 lo = some l) (hh : bndV N hi = some h) (h1 : l ≤ h) (h2 : h ≤ c) :
    (Instr.sliceAt t (.slice A N c) lo hi none).run P w = .ok (sliced A l h c s) w := by
  have he : P.elem t = e := by simp [Program.elem, ht]
  have ht' : P.underlying t = some (.slice (P.elem t)) := by rw [he]; exact ht
  have hsz : (sizeOf (P.elem t)).run P w = .ok s w := by
    rw [he]
    unfold sizeOf1 at hs
    cases hi' : P.info? e with
    | none => rw [hi'] at hs; cases hs
    | some i =>
      rw [hi'] at hs
      simp only [Option.map_some, Option.some.injEq] at hs
      simp [sizeOf, typeInfo, hi', hs]
  rw [run_sliceAt_slice w t _ lo hi none ht']
  have key : ∀ {d : Nat} {o : Option Value} {m : Nat}, bndV d o = some m → (o = none ∧ d = m) ∨ ∃ k i, o = some (.int k i) ∧ 0 ≤ i ∧ m = i.toNat := by
    intro d o m ho
    unfold bndV at ho
    split at ho
    · exact .inl ⟨rfl, Option.some.inj ho⟩
    · split at ho
      · rename_i k i hi
        exact .inr ⟨k, i, rfl, hi, (Option.some.inj ho).symm⟩
      · cases ho
    · cases ho
  rcases key hl with ⟨rfl, rfl⟩ | ⟨k, i, rfl, hi0, rfl⟩ <;> rcases key hh with ⟨rfl, rfl⟩ | ⟨k', i', rfl, hi0', rfl⟩
  · rw [run_slice_any w t A _ c ht', show (Instr.sliceBounds true N c none none none).run P w = .ok (0, N, c) w by simp [Instr.sliceBounds]]
    simp [Result.andThen, hsz]
  · rw [run_slice_h w t A N c ht' k' i' hi0' (by omega), hsz]; rfl
  · rw [run_slice_any w t A N c ht', show (Instr.sliceBounds true N c (some (.int k i)) none none).run P w = .ok (i.toNat, N, c) w by
      simp [Instr.sliceBounds, run_sliceBound, hi0, (by omega : i ≤ (N : Int))]]
    simp [Result.andThen, hsz]
  · rw [run_slice_lh w t A N c ht' k k' i i' hi0 (by omega) (by omega), hsz]; rfl
theorem slcK_of {t : TypeId} {x : Value} {lo hi mx : Option Value} {v : Value} (h : slcV P t x lo hi mx = some v) {w : World} {k : Value → World → Prop} (hk : k v w) : slcK P t x lo hi mx w k := by
  unfold slcV at h
  split at h
  · rename_i e A n c ht
    split at h
    · rename_i s l hh hs hl hh'
      split at h
      · rename_i hc
        cases h
        exact runK_of (sliceAt_run ht hs hl hh' hc.1 hc.2) hk
      · cases h
    · cases h
  · cases h
/-- An operation that comes to one value in every world. -/
theorem pv_step {op : Op} {ty : TypeId} {f : Fr} {v : Value} (h : pvOf P op f = some v) {w : World} {k : Value → World → Prop} (hk : k v w) : stepK P op ty f w k := by
  cases op with
  | move x => cases h; exact hk
  | assign x => cases h; exact hk
  | pick c a b =>
    unfold pvOf at h
    unfold stepK pickW
    simp only at h ⊢
    split at h
    · rename_i d hd
      cases h
      exact hk
    · cases h
  | nilCheck x => show optW (nilV (ev f x)) k w; rw [show nilV (ev f x) = some v from h]; exact hk
  | binOp op t x y yt =>
    show binK P op t x y (ev f x) (ev f y) w k
    unfold binK
    rw [show binV P op t (ev f x) (ev f y) = some v from h]
    exact hk
  | unOp op t x => show optW (unV op (ev f x)) k w; rw [show unV op (ev f x) = some v from h]; exact hk
  | convert s t x =>
    replace h : cvV P s t (ev f x) = some v := h
    show cvK P s t (ev f x) w k
    unfold cvV at h
    unfold cvK
    split at h
    · cases h; simp_all
    · cases h; simp_all
    · cases h
  | extract x i => show optW (extV i (ev f x)) k w; rw [show extV i (ev f x) = some v from h]; exact hk
  | fieldAddr s x i => show optW (fldV P s i (ev f x)) k w; rw [show fldV P s i (ev f x) = some v from h]; exact hk
  | indexAddr t x i => show optW (ixaV P t (ev f x) (ev f i)) k w; rw [show ixaV P t (ev f x) (ev f i) = some v from h]; exact hk
  | slice t x lo hi mx => exact slcK_of h hk
  | makeFunc fn a b => cases h; exact hk
  | build t ps => exact runK_of (bldV_run (show bldV P t (ps.map fun p => (p.1, ev f p.2)) = some v from h) w) hk
  | call c =>
    obtain ⟨cal, as, ats⟩ := c
    unfold pvOf at h
    simp only at h
    split at h
    · show lenW P (lenA P ats (as.map (ev f))) ats ty (as.map (ev f)) w k
      rw [h]; exact hk
    · cases h
  | _ => cases h

theorem wpLast_of_any {all : Array Oper} {ds : List Nat} {S : World → Prop} {Q : Exit → Act → World → Prop} : ∀ (n : Nat) (l : Array Bool) (a : Act) (w : World), (∀ j, j < all.size → l.getD j false = false → j ∈ ds) → wpAny P .any all Q n l a w → wpAnyLast P .any all Q S ds n l a w
  | 0, _, _, _, _, h => h
  | n + 1, l, a, w, hd, h => by
    refine ⟨h.1, fun i hi => wpOp_mono (fun a' w' h' => ⟨?_, wpLast_of_any n _ a' w' ?_ h'⟩) (h.2 i hi)⟩
    · intro hn
      refine absurd (hd i ?_ ?_) hn
      · obtain ⟨_, o, ho, _⟩ := mem_ready.1 hi
        exact (Array.getElem?_eq_some_iff.1 ho).1
      · have := (mem_ready.1 hi).1
        rcases Nat.lt_or_ge i l.size with h' | h'
        · simpa [h'] using this
        · simp [Array.getElem?_eq_none h']
    · intro j hj hl
      refine hd j hj ?_
      by_cases hij : i = j
      · subst hij
        have := (mem_ready.1 hi).1
        rcases Nat.lt_or_ge i l.size with h' | h'
        · simpa [h'] using this
        · simp [Array.getElem?_eq_none h']
      · rw [getD_set_ne false hij] at hl
        exact hl
theorem endB_spec {all : Array Oper} {ds : List Nat} {l : Array Bool} (h : endB all ds l = true) : ∀ j, j < all.size → l.getD j false = false → j ∈ ds := by
  intro j hj hl
  have := List.all_eq_true.1 h j (List.mem_range.2 hj)
  rw [hl] at this
  simpa using this

theorem RD_sound' {all : Array Oper} {ds : List Nat} {S : World → Prop} {K : Fr → World → Prop} {Q : Exit → Act → World → Prop} {m : Nat} {lE : Array Bool} (hK : ∀ f w a, Sim n a f → K f w → wpAnyLast P .any all Q S ds m lE a w)
    (hQ : ∀ c a d v w, Q (.panic c) (Act.put a d v) w → Q (.panic c) a w) :
    ∀ (p : List (Nat × Nat)) (l : Array Bool) (r : List (Nat × MI)), planOf P n all ds l p = some (r, lE) → ∀ (f : Fr) (w : World) (a : Act), Sim n a f → RD P S K r f w → wpAnyLast P .any all Q S ds (p.length + m) l a w
  | [], l, r, hp, f, w, a, hs, h => by
    cases hp
    rw [List.length_nil, Nat.zero_add]
    exact hK f w a hs h
  | (q, i) :: p, l, r, hp, f, w, a, hs, h => by
    unfold planOf at hp
    split at hp
    · rename_i hg
      split at hp
      · rename_i m t hm ht
        cases hp
        cases ho : all[i]? with
        | none => rw [ho] at hm; cases hm
        | some o =>
          rw [ho] at hm
          simp only [Option.bind_some] at hm
          obtain ⟨h1, h2, h3, h4, h5, h6⟩ := miOf_some hm
          obtain ⟨t, lT⟩ := t
          have ih := RD_sound' (S := S) hK hQ p _ t ht
          rw [List.length_cons, Nat.succ_add]
          unfold RD at h
          unfold planGood at hg
          simp only [h4, h5, h6] at h
          split at hg
          · simp only [ho, Option.any_some, Bool.and_eq_true] at hg
            have hgd := gd_sound hs h3
            rcases gd_split h with ⟨hw, hr⟩ | ⟨hw, hr⟩ <;> rw [← hgd] at hw
            · cases hv : pvOf P o.op f with
              | none => rw [hv] at hr; exact hr.elim
              | some v =>
                rw [hv] at hr
                exact pure_ _ ho rfl hg.1 (fun c a w => hQ c a _ _ w) (.inl ⟨hw, fun w' => step_yields hs hg.2 (pv_step hv ⟨rfl, rfl⟩)⟩) rfl (ih _ w _ (hs.put h1 v) hr)
            · exact pure_ _ ho rfl hg.1 (fun c a w => hQ c a _ _ w) (.inr ⟨hw, rfl⟩) rfl (ih _ w _ (hs.put h1 undef) hr)
          · simp only [ho, Option.any_some, Bool.and_eq_true] at hg
            have hgd := gd_sound hs h3
            rcases gd_split h with ⟨hw, hS, v, hv, hr⟩ | ⟨hw, hS, hr⟩ <;> rw [← hgd] at hw
            · exact take_ _ ho rfl hg.1 (fun c a w => hQ c a _ _ w) (.inl ⟨hw, fun w' hS' => step_yields hs hg.2 (hv w' hS')⟩) hS rfl (ih _ w _ (hs.put h1 v) hr)
            · exact take_ _ ho rfl hg.1 (fun c a w => hQ c a _ _ w) (.inr ⟨hw, rfl⟩) hS rfl (ih _ w _ (hs.put h1 undef) hr)
          · simp only [Bool.and_eq_true, Bool.not_eq_true', List.contains_eq_mem, decide_eq_false_iff_not] at hg
            refine one_ _ ho rfl hg.1 hg.2 fun K' hK' => ?_
            have hgd := gd_sound hs h3
            rcases gd_split h with ⟨hw, hr⟩ | ⟨hw, hS, hr⟩ <;> rw [← hgd] at hw
            · rw [if_pos hw]
              exact step_sound hs h2 hr fun v w' hv => hK' _ _ hv.1 fun hS => ih _ w' _ (hs.put h1 v) (hv.2 hS)
            · rw [hw, if_neg (by decide)]
              exact hK' _ _ hS fun _ => ih _ w _ (hs.put h1 undef) hr
          · simp only [Bool.and_eq_true, List.contains_eq_mem, decide_eq_true_eq] at hg
            refine last_ _ ho rfl hg.1 hg.2 fun K' hK' => ?_
            split at h
            · exact absurd rfl (by assumption)
            · exact absurd rfl (by assumption)
            · exact absurd rfl (by assumption)
            · have hgd := gd_sound hs h3
              rcases gd_split h with ⟨hw, hr⟩ | ⟨hw, hr⟩ <;> rw [← hgd] at hw
              · rw [if_pos hw]
                exact step_sound hs h2 hr fun v w' hv => hK' _ _ (ih _ w' _ (hs.put h1 v) hv)
              · rw [hw, if_neg (by decide)]
                exact hK' _ _ (ih _ w _ (hs.put h1 undef) hr)
      · cases hp
    · cases hp

theorem RD_sound {all : Array Oper} {ds : List Nat} {S : World → Prop} {K : Fr → World → Prop} {Q : Exit → Act → World → Prop} {m : Nat} {lE : Array Bool} (hd : endB all ds lE = true) (hK : ∀ f w a, Sim n a f → K f w → wpAny P .any all Q m lE a w)
    (hQ : ∀ c a d v w, Q (.panic c) (Act.put a d v) w → Q (.panic c) a w)
    (p : List (Nat × Nat)) (l : Array Bool) (r : List (Nat × MI)) (hp : planOf P n all ds l p = some (r, lE)) (f : Fr) (w : World) (a : Act) (hs : Sim n a f) (h : RD P S K r f w) : wpAnyLast P .any all Q S ds (p.length + m) l a w :=
  RD_sound' (fun f w a hs hk => wpLast_of_any _ _ _ _ (endB_spec hd) (hK f w a hs hk)) hQ p l r hp f w a hs h

theorem RG_sound {all : Array Oper} {Q : Exit → Act → World → Prop} {K : Fr → World → Prop} (hK : ∀ f w a, Sim n a f → K f w → Q .normal a w)
    (hQ : ∀ c a d v w, Q (.panic c) (Act.put a d v) w → Q (.panic c) a w) :
    ∀ (p : List (Bool × List Nat × List (Nat × Nat))) (l : Array Bool) (r : List (Bool × List (Nat × MI))), segsOf P n all l p = some r → ∀ (f : Fr) (w : World) (a : Act), Sim n a f → RG P K r f w → wpAny P .any all Q (lens p) l a w
  | [], l, r, hp, f, w, a, hs, h => by
    unfold segsOf at hp
    split at hp
    · rename_i hr
      cases hp
      exact ⟨by simpa using hr, hK f w a hs h⟩
    · cases hp
  | (b, ds, p) :: q, l, r, hp, f, w, a, hs, h => by
    unfold segsOf at hp
    split at hp
    · rename_i t l' ht
      split at hp
      · rename_i hd
        cases hq : segsOf P n all l' q with
        | none => rw [hq] at hp; cases hp
        | some r' =>
          rw [hq] at hp
          cases hp
          have ih := RG_sound hK hQ q l' r' hq
          have main : ∀ S : World → Prop, RD P S (RG P K r') t f w → wpAny P .any all Q (lens ((b, ds, p) :: q)) l a w := fun S hS =>
            wpAny_of_last _ _ _ _ (RD_sound (S := S) hd (fun f w a hs h => ih f w a hs h) hQ p l t ht f w a hs hS)
          cases b with
          | true =>
            obtain ⟨S, hS, hr⟩ := h
            exact main S hr
          | false => exact main TS h
      · cases hp
    · cases hp

theorem op_sound {all : Array Oper} {o : Oper} {i : Nat} {m : MI} {K : Fr → World → Prop} {K' : Act → World → Prop} {Q : Exit → Act → World → Prop} {f : Fr} {w : World} {a : Act} (ho : all[i]? = some o) (hm : miOf P n all o = some m) (hs : Sim n a f)
    (hK : ∀ f w a, Sim n a f → K f w → K' a w) (h : RL P K [m] f w) : wpOp P all Q i K' a w := by
  obtain ⟨h1, h2, h3, h4, h5, h6⟩ := miOf_some hm
  unfold RL at h
  rw [h4, h5, h6] at h
  unfold wpOp
  rw [ho]
  simp only
  rw [gd_sound hs h3]
  split
  · rename_i hw
    rw [if_pos hw] at h
    exact .inl (step_sound hs h2 h fun v w' hv => hK _ w' _ (hs.put h1 v) hv)
  · rename_i hw
    rw [if_neg hw] at h
    exact hK _ w _ (hs.put h1 undef) h
theorem DT_sound {all : Array Oper} {ds : List Nat} {S : World → Prop} {Q : Exit → Act → World → Prop} {K : Fr → World → Prop} (hK : ∀ f w a, Sim n a f → K f w → Q .normal a w)
    (hQ : ∀ c a d v w, Q (.panic c) (Act.put a d v) w → Q (.panic c) a w) :
    ∀ (p : PF) (l : Array Bool) (t : DT), dtOf P n all ds l p = some t → ∀ (f : Fr) (w : World) (a : Act), Sim n a f → DTK P S K t f w → wpAnyLast P .any all Q S ds (szF p) l a w
  | .fin, l, t, hp, f, w, a, hs, h => by
    unfold dtOf at hp
    split at hp
    · rename_i hr
      cases hp
      exact ⟨by simpa using hr, hK f w a hs h⟩
    · cases hp
  | .fork i1 p1 t1 i2 p2 t2, l, t, hp, f, w, a, hs, h => by
    unfold dtOf at hp
    split at hp
    · rename_i hc
      obtain ⟨hc1, hc2, hc3⟩ := hc
      split at hp
      · rename_i m1 m2 l1 e1 l2 e2 h1 h2 h3 h4
        split at hp
        · rename_i a1 a2 h5 h6
          cases hp
          have s1 := RD_sound' (S := S) (DT_sound (S := S) hK hQ t1 _ a1 h5) hQ p1 _ l1 h3
          have s2 := RD_sound' (S := S) (DT_sound (S := S) hK hQ t2 _ a2 h6) hQ p2 _ l2 h4
          rw [← hc3] at s2
          refine ⟨fun hz => by rw [hz] at hc1; simp at hc1, fun i hi => ?_⟩
          have hi2 := List.all_eq_true.1 hc2 i hi
          rw [Bool.or_eq_true, beq_iff_eq, beq_iff_eq] at hi2
          rcases hi2 with rfl | rfl
          · cases ho : all[i]? with
            | none => rw [ho] at h1; cases h1
            | some o =>
              rw [ho] at h1
              exact op_sound ho h1 hs (fun f w' a hs hk => ⟨fun _ _ => hk.1, s1 f w' a hs (hk.2 hk.1)⟩) h.1
          · cases ho : all[i]? with
            | none => rw [ho] at h2; cases h2
            | some o =>
              rw [ho] at h2
              exact op_sound ho h2 hs (fun f w' a hs hk => ⟨fun _ _ => hk.1, s2 f w' a hs (hk.2 hk.1)⟩) h.2
        · cases hp
      · cases hp
    · cases hp
theorem WM_sound (hm : P.follows .mixedOrders = true) {plans : List (Nat × PN)} :
    ∀ (c : Code) (m : MC), mcOf P n plans c = some m → ∀ (Q : Exit → Fr → World → Prop) (f : Fr) (w : World) (a : Act), Sim n a f → WM P m Q f w → c.wp P (QA n Q) a w
  | .skip, m, h, Q, f, w, a, hs, hw => by
    cases h
    exact wp_skip ⟨f, hs, hw⟩
  | .ret, m, h, Q, f, w, a, hs, hw => by
    cases h
    exact wp_ret ⟨f, hs, hw⟩
  | .exit i, m, h, Q, f, w, a, hs, hw => by
    cases h
    exact wp_exit ⟨f, hs, hw⟩
  | .region id ops false, m, h, Q, f, w, a, hs, hw => by
    unfold mcOf at h
    cases hl : misOf P n ops ops.toList with
    | none => rw [hl] at h; cases h
    | some l =>
      rw [hl] at h
      cases h
      exact wp_region_list (RL_sound (fun f w a hs hk => ⟨f, hs, hk⟩) ops.toList l hl f w a hs hw)
  | .region id ops true, m, h, Q, f, w, a, hs, hw => by
    unfold mcOf at h
    split at h
    · rename_i i p hf
      split at h
      · rename_i hlen
        cases hl : segsOf P n ops (Array.replicate ops.size false) p with
        | none => rw [hl] at h; cases h
        | some l =>
          rw [hl] at h
          cases h
          have e : lens p = ops.size := by simpa using hlen
          refine wp_region_any hm ?_
          have := RG_sound (Q := QA n Q) (fun f w a hs hk => ⟨f, hs, hk⟩) (fun _ _ _ _ _ h => h.elim) p _ l hl f _ a hs hw
          rw [e] at this
          exact this
      · cases h
    · rename_i i ds p t hf
      split at h
      · rename_i hlen
        split at h
        · rename_i r e hr
          cases hl : dtOf P n ops ds e t with
          | none => rw [hl] at h; cases h
          | some d =>
            rw [hl] at h
            cases h
            have e : p.length + szF t = ops.size := by simpa using hlen
            refine wp_region_any hm ?_
            obtain ⟨S, hS, hr2⟩ := hw
            have := RD_sound' (S := S) (Q := QA n Q) (DT_sound (S := S) (Q := QA n Q) (fun f w a hs hk => ⟨f, hs, hk⟩) (fun _ _ _ _ _ h => h.elim) t _ d hl) (fun _ _ _ _ _ h => h.elim) p _ r hr f _ a hs hr2
            rw [e] at this
            exact wpAny_of_last _ _ _ _ this
        · cases h
      · cases h
    · cases h
  | .seq x y, m, h, Q, f, w, a, hs, hw => by
    unfold mcOf at h
    split at h
    · rename_i mx my hx hy
      cases h
      refine wp_seq (wp_mono (WM_sound hm x mx hx _ f w a hs hw) ?_)
      intro e a' w' hq
      cases e with
      | normal =>
        obtain ⟨f', hs', h'⟩ := hq
        exact WM_sound hm y my hy Q f' w' a' hs' h'
      | _ => exact hq
    · cases h
  | .cond c x y, m, h, Q, f, w, a, hs, hw => by
    unfold mcOf at h
    split at h
    · rename_i mx my hx hy
      cases h
      unfold WM at hw
      split at hw
      · rename_i hb
        exact wp_cond (t := true) (by rw [hs.eval]; exact hb) (WM_sound hm x mx hx Q f w a hs hw)
      · rename_i hb
        exact wp_cond (t := false) (by rw [hs.eval]; exact hb) (WM_sound hm y my hy Q f w a hs hw)
      · exact hw.elim
    · cases h
  | .block id x, m, h, Q, f, w, a, hs, hw => by
    unfold mcOf at h
    cases hx : mcOf P n plans x with
    | none => rw [hx] at h; cases h
    | some mx =>
      rw [hx] at h
      cases h
      refine wp_block (wp_mono (WM_sound hm x mx hx _ f w a hs hw) ?_)
      intro e a' w' hq
      cases e with
      | exit i =>
        obtain ⟨f', hs', h'⟩ := hq
        replace h' : if i = id then Q .normal f' w' else Q (.exit i) f' w' := h'
        show if i = id then QA n Q .normal a' w' else QA n Q (.exit i) a' w'
        by_cases hi : i = id
        · rw [if_pos hi] at h' ⊢
          exact ⟨f', hs', h'⟩
        · rw [if_neg hi] at h' ⊢
          exact ⟨f', hs', h'⟩
      | _ => exact hq
  | .loop x, m, h, Q, f, w, a, hs, hw => by
    unfold mcOf at h
    cases hx : mcOf P n plans x with
    | none => rw [hx] at h; cases h
    | some mx =>
      rw [hx] at h
      cases h
      obtain ⟨I, n₀, h0, hr⟩ := hw
      refine wp_loop_ghost (fun k a w => ∃ f, Sim n a f ∧ I k f w) n₀ ⟨f, hs, h0⟩ ?_
      intro k a w ⟨f, hs, hI⟩
      refine wp_mono (WM_sound hm x mx hx _ f w a hs (hr k f w hI)) ?_
      intro e a' w' hq
      cases e with
      | normal =>
        obtain ⟨f', hs', k', hlt, h'⟩ := hq
        exact ⟨k', hlt, f', hs', h'⟩
      | _ => exact hq
  | .rangeFunc _ _ _ _, _, h, _, _, _, _, _, _ => by cases h
  | .scope _, _, h, _, _, _, _, _, _ => by cases h
  | .label _, _, h, _, _, _, _, _, _ => by cases h
  | .goto _, _, h, _, _, _, _, _, _ => by cases h
  | .refuse _, _, h, _, _, _, _, _, _ => by cases h

/-- A function's code as it was read. -/
def fnOf (P : Program) (fn : Func) (plans : List (Nat × PN)) : Option MC := if P.follows .mixedOrders = true ∧ (fn.name == "runtime.NumGoroutine") = false then fn.body.bind (mcOf P fn.ntmps plans) else none

def resF (a : Act) : ResultVar → Sem Value
  | .tmp t => pure (a.tmps.getD t undef)
  | .cell b t => do loadVar t (← asAddr (a.tmps.getD b undef))
theorem resL_run {a : Act} {f : Fr} {w : World} (hs : Sim n a f) : ∀ {l : List ResultVar} {vs : List Value}, resL P l f w = some vs →
    (l.mapM (resF a)).run P w = .ok vs w
  | [], vs, h => by cases h; rfl
  | .tmp t :: r, vs, h => by
    unfold resL at h
    cases hr : resL P r f w with
    | none => rw [hr] at h; cases h
    | some l =>
      rw [hr] at h
      cases h
      rw [List.mapM_cons, Sem.run_bind]
      show (Result.ok (a.tmps.getD t undef) w).andThen _ = _
      simp only [Result.andThen_ok]
      rw [Sem.run_bind, resL_run hs hr]
      simp only [Result.andThen_ok, Sem.run_pure, hs.get]
  | .cell b t :: r, vs, h => by
    unfold resL at h
    split at h
    · rename_i v l hv hr
      cases h
      rw [List.mapM_cons, Sem.run_bind]
      have : (resF a (.cell b t)).run P w = .ok v w := by
        show (do loadVar t (← asAddr (a.tmps.getD b undef)) : Sem Value).run P w = .ok v w
        rw [hs.get]
        have h1 := ldV_run hv
        unfold Instr.loadAt at h1
        unfold ldV at hv
        split at hv
        · rename_i ad hfa
          rw [hfa] at h1 ⊢
          exact h1
        · cases hv
      rw [this]
      simp only [Result.andThen_ok]
      rw [Sem.run_bind, resL_run hs hr]
      rfl
    · cases h

theorem results_run {fn : Func} {a : Act} {f : Fr} {w : World} (hs : Sim n a f) {vs : List Value} (h : resL P fn.results.toList f w = some vs) : (results fn a.tmps).run P w = .ok (resV vs) w := by
  unfold results
  have h1 := resL_run (P := P) hs h
  rw [Sem.run_bind, Array.mapM_eq_mapM_toList, ← bind_pure_comp, Sem.run_bind]
  have e : ∀ (g g' : ResultVar → Sem Value), (∀ r, g r = g' r) → List.mapM g fn.results.toList = List.mapM g' fn.results.toList := fun g g' hg => by rw [funext hg]
  rw [e _ (resF a) (fun r => by cases r <;> rfl), h1]
  simp only [Result.andThen_ok, Sem.run_pure]
  congr 1
  match vs with
  | [] => rfl
  | [v] => rfl
  | u :: v :: r =>
    rw [dif_neg (by simp)]
    rfl

theorem calls_of {k : FuncId} {fn : Func} {plans : List (Nat × PN)} {m : MC} {args : Array Value} {w : World} {R : Ending → World → Prop} (hf : P.funcs[k]? = some fn) (hm : fnOf P fn plans = some m)
    (hsz : args.size ≤ fn.ntmps) (h : WM P m (retQ P fn.results R) (argF args) w) : Calls P k args w R := by
  unfold fnOf at hm
  split at hm
  · rename_i hx
    replace hx := hx.1
    cases hb : fn.body with
    | none => rw [hb] at hm; cases hm
    | some c =>
      rw [hb] at hm
      simp only [Option.bind_some] at hm
      refine calls_of_wp hf hb (wp_mono (WM_sound hx c m hm _ (argF args) w _ ?_ h) ?_)
      · refine ⟨by simp; omega, fun t => ?_, rfl⟩
        simp only [argF, Array.getD_eq_getD_getElem?, Array.getElem?_append]
        split
        · rfl
        · rename_i hge
          rw [Array.getElem?_eq_none (by omega : args.size ≤ t)]
          simp only [Option.getD_none]
          cases hr : (Array.replicate (fn.ntmps - args.size) undef)[t - args.size]? with
          | none => rfl
          | some v =>
            obtain ⟨hlt, he⟩ := Array.getElem?_eq_some_iff.1 hr
            simp at he
            rw [← he]; rfl
      · intro e a' w' hq
        cases e with
        | normal =>
          obtain ⟨f', hs, h'⟩ := hq
          replace h' : retS (resL P fn.results.toList f' w') R w' := h'
          cases hv : resL P fn.results.toList f' w' with
          | none => rw [hv] at h'; exact h'.elim
          | some vs =>
            rw [hv] at h'
            exact ⟨hs.defers, _, results_run hs hv, h'⟩
        | ret =>
          obtain ⟨f', hs, h'⟩ := hq
          replace h' : retS (resL P fn.results.toList f' w') R w' := h'
          cases hv : resL P fn.results.toList f' w' with
          | none => rw [hv] at h'; exact h'.elim
          | some vs =>
            rw [hv] at h'
            exact ⟨hs.defers, _, results_run hs hv, h'⟩
        | exit i =>
          obtain ⟨f', hs, h'⟩ := hq
          exact h'.elim
        | _ => exact hq.elim
  · cases hm

theorem callK.mono {g : Nat} {args : Array Value} {w : World} {k k' : Value → World → Prop} (h : callK P g args w k) (hk : ∀ v w', k v w' → k' v w') : callK P g args w k' := by
  unfold callK at *
  split at h
  · rename_i hb
    rw [if_pos hb]
    exact Calls.mono h fun _ _ ⟨v, he, hv⟩ => ⟨v, he, hk _ _ hv⟩
  · rename_i hb
    rw [if_neg hb]
    obtain ⟨v, w', hr, hkv⟩ := h
    exact ⟨v, w', hr, hk _ _ hkv⟩
theorem callK.calls {g : Nat} {args : Array Value} {w : World} {k : Value → World → Prop} (hb : hasBody P g = true) (h : callK P g args w k) : Calls P g args w fun e w' => ∃ v, e = .returned v ∧ k v w' := by
  unfold callK at h
  rw [if_pos hb] at h
  exact h
theorem Calls.callK {g : Nat} {args : Array Value} {w : World} {k : Value → World → Prop} (hb : hasBody P g = true) (h : Calls P g args w fun e w' => ∃ v, e = .returned v ∧ k v w') : M.callK P g args w k := by
  unfold M.callK
  rw [if_pos hb]
  exact h
/-- What stands outside is run. -/
theorem ext_intro {g : Nat} {args : Array Value} {w w' : World} {v : Value} {k : Value → World → Prop} (hb : hasBody P g = false) (h : (callFunc g args).run P w = .ok (.value v) w') (hk : k v w') : M.callK P g args w k := by
  unfold M.callK
  rw [if_neg (by rw [hb]; decide)]
  exact ⟨v, w', h, hk⟩
def retV (o : Option (List Value)) (R : Value → World → Prop) (w : World) : Prop := match o with
  | some l => R (resV l) w
  | none => False
def retK (P : Program) (rs : Array ResultVar) (R : Value → World → Prop) : Exit → Fr → World → Prop
  | .normal, f, w => retV (resL P rs.toList f w) R w
  | .ret, f, w => retV (resL P rs.toList f w) R w
  | _, _, _ => False
theorem callK_of {k : FuncId} {fn : Func} {plans : List (Nat × PN)} {m : MC} {args : Array Value} {w : World} {R : Value → World → Prop} (hf : P.funcs[k]? = some fn) (hm : fnOf P fn plans = some m)
    {rs : Array ResultVar} (hr : fn.results = rs) (hsz : args.size ≤ fn.ntmps) (h : WM P m (retK P rs R) (argF args) w) : callK P k args w R := by
  subst hr
  have hb : hasBody P k = true := by
    unfold fnOf at hm
    split at hm
    · rename_i hx
      unfold hasBody
      rw [hf]
      simp only [hx.2, Bool.not_false, Bool.and_true]
      cases hb : fn.body with
      | none => rw [hb] at hm; cases hm
      | some c => rfl
    · cases hm
  refine Calls.callK hb (calls_of hf hm hsz ?_)
  have e : retK P fn.results R = retQ P fn.results (fun e w' => ∃ v, e = .returned v ∧ R v w') := by
    funext e f w
    cases e <;> simp only [retK, retQ] <;> (cases resL P fn.results.toList f w <;> simp [retV, retS])
  rw [← e]
  exact h
end Go.Proofs.Ytnoeeiaffnbhcaa.M
