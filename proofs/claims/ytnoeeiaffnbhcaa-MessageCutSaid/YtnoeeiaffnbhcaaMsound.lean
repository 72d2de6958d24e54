/- What is shown of a walk over slots as a function holds of the machine's call: the steps, the regions, the code. Conditions: the code was read by the checker. -/
import Derived.Test.YtnoeeiaffnbhcaaMcore
namespace Go.Proofs.Ytnoeeiaffnbhcaa.M
variable {P : Program}

theorem run_val {s : Sem Value} {w w' : World} {v : Value} (h : s.run P w = .ok v w') : (do pure (Next.value (← s)) : Sem Next).run P w = .ok (.value v) w' := by
  rw [Sem.run_bind, h]; rfl

theorem run_underlying' {t : TypeId} {d : TypeDesc} (h : P.underlying t = some d) (w : World) : (underlying t).run P w = .ok d w := by
  show (match P.underlying t with | some d => (pure d : Sem TypeDesc) | none => stuck "no such type").run P w = _
  rw [h]; rfl

theorem binI_run {op : BinOp} {k : IntKind} {a b : Int} {r : Value} (h : binI op k a b = some r) (h1 : op ≠ .shl) (h2 : op ≠ .shr) (t : TypeId) (w : World) :
    (binOp op t (.int k a) (.int k b)).run P w = .ok r w := by
  cases op <;> simp only [binI, cmpI] at h <;> (try split at h) <;> (try cases h) <;> (try contradiction) <;>
    simp_all [binOp, Op.intArith, Op.intDiv, Op.intCmp, Op.intBits, bits] <;> rfl

theorem isBool_of {t : TypeId} (h : isBool P t = true) : P.underlying t = some .bool := by
  unfold isBool at h
  split at h
  · assumption
  · cases h

theorem binV_run {op : BinOp} {t : TypeId} {u v r : Value} (h : binV P op t u v = some r) (x y : Operand) (w : World) :
    (do eqGuard op t x y u v; binOp op t u v : Sem Value).run P w = .ok r w := by
  unfold binV at h
  split at h
  · split at h
    · cases h
    · rename_i hb
      cases h
      simp [go_sem, binOp, Op.shift, hb]
  · rename_i k a k' b
    split at h
    · cases h
    · rename_i hb
      cases h
      simp only [eqGuard_shr, binOp, Op.shift]
      rw [Sem.run_bind]
      simp only [hb, if_false]
      show _ = Result.ok (Value.int k (a / 2 ^ min b.toNat k.bits)) w
      have : a.fdiv (2 ^ min b.toNat k.bits) = a / 2 ^ min b.toNat k.bits := Int.fdiv_eq_ediv_of_nonneg _ (Int.le_of_lt (Int.pow_pos (by decide)))
      rw [← this]; rfl
  · split at h
    · rename_i e
      subst e
      rw [Sem.run_bind, eqGuard_at_int]
      refine binI_run h ?_ ?_ t w
      · intro e; subst e; simp_all
      · intro e; subst e; simp_all
    · cases h
  · split at h
    · rename_i e
      cases h
      rw [Sem.run_bind, eqGuard_at_bool]
      exact run_eql_bool w t _ _ (isBool_of e)
    · cases h
  · split at h
    · rename_i e
      cases h
      rw [Sem.run_bind, eqGuard_at_bool]
      exact run_neq_bool w t _ _ (isBool_of e)
    · cases h
  · cases h; rw [Sem.run_bind, eqGuard_at_string]; rfl
  · cases h; rw [Sem.run_bind, eqGuard_at_string]; rfl
  · cases h

theorem run_typeInfo' {t : TypeId} {i : TypeInfo} (h : P.info? t = some i) (w : World) : (typeInfo t).run P w = .ok i w := by
  show (match P.info? t with | some i => (pure i : Sem TypeInfo) | none => stuck "no such type").run P w = _
  rw [h]; rfl
theorem run_sizeOf' {t : TypeId} {n : Nat} (h : sizeOf1 P t = some n) (w : World) : (sizeOf t).run P w = .ok n w := by
  unfold sizeOf1 at h
  cases hi : P.info? t with
  | none => rw [hi] at h; cases h
  | some i =>
    rw [hi] at h
    cases h
    unfold sizeOf
    rw [Sem.run_bind, run_typeInfo' hi]; rfl

theorem cellsAt_run {w : World} {a : Addr} : ∀ {n i : Nat} {l : List Value} (acc : Array Value), cellsAt w a i n = some l → (loadCellsFrom a i n acc).run P w = .ok (acc ++ l.toArray) w
  | 0, i, l, acc, h => by
    cases h
    simp [loadCellsFrom]
  | n + 1, i, l, acc, h => by
    unfold cellsAt at h
    split at h
    · rename_i v r hv hr
      cases h
      unfold loadCellsFrom
      rw [Sem.run_bind, run_load, hv]
      simp only [Result.andThen_ok]
      rw [cellsAt_run _ hr]
      simp
    · cases h

theorem shapeOf_agg {t : TypeId} {n : Nat} (h : shapeOf P t = some (some n)) (w : World) : (isAgg t).run P w = .ok true w ∧ (sizeOf t).run P w = .ok n w := by
  unfold shapeOf at h
  split at h
  · rename_i fs i h1 h2
    cases h
    exact ⟨by unfold isAgg; rw [Sem.run_bind, run_underlying' h1]; rfl, run_sizeOf' (by unfold sizeOf1; rw [h2]; rfl) w⟩
  · rename_i l e i h1 h2
    cases h
    exact ⟨by unfold isAgg; rw [Sem.run_bind, run_underlying' h1]; rfl, run_sizeOf' (by unfold sizeOf1; rw [h2]; rfl) w⟩
  · cases h
  · cases h
theorem shapeOf_one {t : TypeId} (h : shapeOf P t = some none) (w : World) : (isAgg t).run P w = .ok false w := by
  unfold shapeOf at h
  split at h
  · cases h
  · cases h
  · rename_i d i n1 n2 h1 h2
    unfold isAgg
    rw [Sem.run_bind, run_underlying' h1]
    simp only [Result.andThen_ok]
    cases d <;> first | rfl | (exact absurd rfl (n1 _)) | (exact absurd rfl (n2 _ _)) | (exfalso; simp_all)
  · cases h

theorem ldV_run {w : World} {t : TypeId} {x v : Value} (h : ldV P w t x = some v) : (Instr.loadAt t x).run P w = .ok v w := by
  unfold ldV at h
  split at h
  · rename_i a
    unfold Instr.loadAt Instr.sureAddr
    rw [Sem.run_bind, Sem.run_pure]
    simp only [Result.andThen_ok]
    unfold loadVar
    split at h
    · rename_i hs
      rw [Sem.run_bind, shapeOf_one hs]
      simp only [Result.andThen_ok]
      rw [if_neg (by decide), run_load, h]
    · rename_i n hs
      rw [Sem.run_bind, (shapeOf_agg hs w).1]
      simp only [Result.andThen_ok]
      cases hc : cellsAt w a 0 n with
      | none => rw [hc] at h; cases h
      | some l =>
        rw [hc] at h
        cases h
        rw [if_pos trivial, Sem.run_bind, (shapeOf_agg hs w).2]
        simp only [Result.andThen_ok]
        rw [Sem.run_bind]
        unfold loadCells
        rw [cellsAt_run _ hc]
        simp
    · cases h
  · cases h

theorem stCells_run {a : Addr} : ∀ {l : List Value} {w w' : World} {i : Nat}, stCells w a i l = some w' → (storeCells a l i).run P w = .ok () w'
  | [], w, w', i, h => by cases h; rfl
  | v :: r, w, w', i, h => by
    unfold stCells at h
    split at h
    · rename_i hc
      simp only [Bool.and_eq_true, Bool.not_eq_true', Option.isSome_iff_exists] at hc
      obtain ⟨⟨⟨u, hu⟩, hf⟩, h1⟩ := hc
      unfold storeCells
      rw [Sem.run_bind, run_store P w _ v _ h1, hu]
      simp only [hf, Bool.false_eq_true, if_false, Result.andThen_ok]
      exact stCells_run h
    · cases h

theorem stV_run {w w' : World} {t : TypeId} {x v : Value} (h : stV P w t x v = some w') : (Instr.storeAt t x v).run P w = .ok () w' := by
  unfold stV at h
  split at h
  · rename_i a v
    split at h
    · rename_i hs
      unfold Instr.storeAt Instr.sureAddr
      rw [Sem.run_bind, Sem.run_pure]
      simp only [Result.andThen_ok]
      unfold storeVar
      rw [Sem.run_bind, run_sizeOf' hs]
      simp only [Result.andThen_ok]
      rw [if_neg (by simp)]
      exact stCells_run h
    · cases h
  · cases h

theorem fldV_run {w : World} {s : TypeId} {i : Nat} {x v : Value} (h : fldV P s i x = some v) : (Instr.fieldAt s x i).run P w = .ok v w := by
  unfold fldV at h
  split at h
  · rename_i a
    cases ho : fOff P s i with
    | none => rw [ho] at h; cases h
    | some o =>
      rw [ho] at h
      cases h
      unfold fOff at ho
      split at ho
      · rename_i fs hu
        split at ho
        · rename_i f hf
          split at ho
          · cases ho
          · rename_i n hn hs
            cases ho
            unfold Instr.fieldAt
            rw [Sem.run_bind, run_underlying' hu]
            simp only [Result.andThen_ok, hf]
            unfold Instr.sureAddr
            rw [Sem.run_bind, Sem.run_pure]
            simp only [Result.andThen_ok]
            rw [Sem.run_bind]
            unfold fieldPlace
            rw [Sem.run_bind, run_sizeOf' hs]
            simp only [Result.andThen_ok]
            rw [if_neg (fun e => hn (by rw [e]))]
            rfl
          · cases ho
        · cases ho
      · cases ho
  · cases h

theorem ixaV_run {w : World} {t : TypeId} {x ix v : Value} (h : ixaV P t x ix = some v) : (Instr.indexAt t x ix).run P w = .ok v w := by
  unfold ixaV at h
  split at h
  · rename_i e a n c k i hu
    split at h
    · rename_i hr
      cases hs : sizeOf1 P e with
      | none => rw [hs] at h; cases h
      | some s =>
        rw [hs] at h
        cases h
        unfold Instr.indexAt
        simp only [asIntOf, Sem.run_bind, Sem.run_pure, Result.andThen_ok, run_underlying' hu]
        rw [if_pos hr]
        simp only [Sem.run_bind, run_sizeOf' hs, Result.andThen_ok, Sem.run_pure]
    · cases h
  · rename_i n e a k i hu
    split at h
    · rename_i hr
      cases hs : sizeOf1 P e with
      | none => rw [hs] at h; cases h
      | some s =>
        rw [hs] at h
        cases h
        unfold Instr.indexAt
        simp only [asIntOf, Sem.run_bind, Sem.run_pure, Result.andThen_ok, run_underlying' hu, Instr.sureAddr]
        rw [if_pos hr]
        simp only [Sem.run_bind, run_sizeOf' hs, Result.andThen_ok, Sem.run_pure]
    · cases h
  · cases h

theorem unV_run {w : World} {op : UnOp} {x v : Value} (h : unV op x = some v) : (Op.unary op x).run P w = .ok v w := by
  unfold unV at h
  split at h <;> first | (cases h; done) | (cases h; rfl)

theorem lenV_run {w : World} {t ty : TypeId} {x v : Value} (h : lenV P t x = some v) : (Builtin.len_ #[t] ty #[x]).run P w = .ok v w := by
  unfold lenV at h
  split at h
  · rename_i s hu
    cases h
    simp [Builtin.len_, run_underlying' hu, goInt]
  · rename_i e a n c hu
    cases h
    simp [Builtin.len_, run_underlying' hu, goInt]
  · rename_i n e hu
    cases h
    simp [Builtin.len_, run_underlying' hu, goInt]
  · cases h

theorem hasBody_run {g : Nat} (h : hasBody P g = true) (args : Array Value) (w : World) : (callFunc g args).run P w = .ok (.enter g args) w := by
  unfold hasBody at h
  split at h
  · rename_i fn hf
    simp only [Bool.and_eq_true, Bool.not_eq_true', beq_eq_false_iff_ne, ne_eq] at h
    obtain ⟨hb, hn⟩ := h
    obtain ⟨c, hc⟩ := Option.isSome_iff_exists.1 hb
    simp [callFunc, hf, hn, hc]
  · cases h

theorem upon_val {o : Oper} {a : Act} {K' : Act → World → Prop} {Q : Exit → Act → World → Prop} {ρ : Operand → Value} {w w' : World} {s : Sem Value} {v : Value} (he : execOp ρ o = (do pure (.value (← s)))) (hr : s.run P w = .ok v w')
    (h : K' (a.put o.dst v) w') : o.upon P a K' Q ((execOp ρ o).run P w) := by
  rw [he, run_val hr]; exact h

theorem call_upon {o : Oper} {a : Act} {K' : Act → World → Prop} {Q : Exit → Act → World → Prop} {ρ : Operand → Value} {w : World} {g : Nat} {args : Array Value} {k : Value → World → Prop} (hr : (execOp ρ o).run P w = .ok (.enter g args) w)
    (hb : hasBody P g = true) (h : callK P g args w k) (hk : ∀ v w', k v w' → K' (a.put o.dst v) w') : o.upon P a K' Q ((execOp ρ o).run P w) := by
  unfold callK at h
  rw [if_pos hb] at h
  rw [hr, Oper.upon_enter]
  refine Calls.mono h fun e w' he => ?_
  obtain ⟨v, rfl, hv⟩ := he
  exact hk v w' hv

theorem res_upon {o : Oper} {a : Act} {K' : Act → World → Prop} {Q : Exit → Act → World → Prop} {r : Result Next} {k : Value → World → Prop} (h : resK r k) (hk : ∀ v w', k v w' → K' (a.put o.dst v) w') : o.upon P a K' Q r := by
  unfold resK at h
  split at h
  · exact hk _ _ h
  · exact hk _ _ h
  · exact h.elim

theorem val_of {o : Oper} {ρ : Operand → Value} {w w' : World} {s : Sem Value} {v : Value} {k : Value → World → Prop} (he : execOp ρ o = (do pure (.value (← s)))) (hr : s.run P w = .ok v w') (h : k v w') :
    ∃ v w', (execOp ρ o).run P w = .ok (.value v) w' ∧ k v w' := ⟨v, w', by rw [he, run_val hr], h⟩

theorem ex_len (ρ : Operand → Value) (d : Option Tmp) (as : Array Operand) (ats : Array TypeId) (ty : TypeId) (pos : String) (aft : Array Edge) (g : Option (Nat × Bool)) :
    execOp ρ ⟨d, .call ⟨.builtin .len, as, ats⟩, ty, pos, aft, g⟩ = (do pure (.value (← Builtin.len_ ats ty (as.map ρ)))) := rfl
theorem ex_append (ρ : Operand → Value) (d : Option Tmp) (as : Array Operand) (ats : Array TypeId) (ty : TypeId) (pos : String) (aft : Array Edge) (g : Option (Nat × Bool)) :
    execOp ρ ⟨d, .call ⟨.builtin .append, as, ats⟩, ty, pos, aft, g⟩ = (do pure (.value (← Builtin.append_ ats ty (as.map ρ)))) := rfl
theorem ex_copy (ρ : Operand → Value) (d : Option Tmp) (as : Array Operand) (ats : Array TypeId) (ty : TypeId) (pos : String) (aft : Array Edge) (g : Option (Nat × Bool)) :
    execOp ρ ⟨d, .call ⟨.builtin .copy, as, ats⟩, ty, pos, aft, g⟩ = (do pure (.value (← Builtin.copy_ ats ty (as.map ρ)))) := rfl
theorem ex_delete (ρ : Operand → Value) (d : Option Tmp) (as : Array Operand) (ats : Array TypeId) (ty : TypeId) (pos : String) (aft : Array Edge) (g : Option (Nat × Bool)) :
    execOp ρ ⟨d, .call ⟨.builtin .delete, as, ats⟩, ty, pos, aft, g⟩ = (do pure (.value (← Builtin.delete_ ats ty (as.map ρ)))) := rfl
theorem ex_cap (ρ : Operand → Value) (d : Option Tmp) (as : Array Operand) (ats : Array TypeId) (ty : TypeId) (pos : String) (aft : Array Edge) (g : Option (Nat × Bool)) :
    execOp ρ ⟨d, .call ⟨.builtin .cap, as, ats⟩, ty, pos, aft, g⟩ = (do pure (.value (← Builtin.cap_ ats ty (as.map ρ)))) := rfl
theorem ex_min (ρ : Operand → Value) (d : Option Tmp) (as : Array Operand) (ats : Array TypeId) (ty : TypeId) (pos : String) (aft : Array Edge) (g : Option (Nat × Bool)) :
    execOp ρ ⟨d, .call ⟨.builtin .min, as, ats⟩, ty, pos, aft, g⟩ = (do pure (.value (← Builtin.min_ ats ty (as.map ρ)))) := rfl
theorem ex_max (ρ : Operand → Value) (d : Option Tmp) (as : Array Operand) (ats : Array TypeId) (ty : TypeId) (pos : String) (aft : Array Edge) (g : Option (Nat × Bool)) :
    execOp ρ ⟨d, .call ⟨.builtin .max, as, ats⟩, ty, pos, aft, g⟩ = (do pure (.value (← Builtin.max_ ats ty (as.map ρ)))) := rfl
theorem ex_bsl (ρ : Operand → Value) (d : Option Tmp) (t : TypeId) (n : Nat) (ps : Array (Nat × Operand)) (ty : TypeId) (pos : String) (aft : Array Edge) (g : Option (Nat × Bool)) :
    execOp ρ ⟨d, .buildSlice t n ps, ty, pos, aft, g⟩ = (do pure (.value (← Instr.buildSlice t n (ps.map fun p => (p.1, ρ p.2))))) := by
  unfold execOp; rfl
theorem ex_bld (ρ : Operand → Value) (d : Option Tmp) (t : TypeId) (ps : Array (Nat × Operand)) (ty : TypeId) (pos : String) (aft : Array Edge) (g : Option (Nat × Bool)) :
    execOp ρ ⟨d, .build t ps, ty, pos, aft, g⟩ = (do pure (.value (← Instr.build t (ps.map fun p => (p.1, ρ p.2))))) := by
  unfold execOp; rfl
theorem blt_val {dst : Option Tmp} {b : Builtin} {as : Array Operand} {ats : Array TypeId} {ty : TypeId} {pos : String} {after : Array Edge} {guard : Option (Nat × Bool)} {f : Fr} {w : World} {k : Value → World → Prop}
    (hv : isVal (.call ⟨.builtin b, as, ats⟩) = true) (h : bltS P b ats ty as (as.map (ev f)) f w k) :
    ∃ v w', (execOp (ev f) ⟨dst, .call ⟨.builtin b, as, ats⟩, ty, pos, after, guard⟩).run P w = .ok (.value v) w' ∧ k v w' := by
  cases b with
  | len =>
    unfold bltS lenW at h
    simp only at h
    split at h
    · rename_i v hv
      unfold lenA at hv
      split at hv
      · rename_i t x ht hx
        refine val_of (ex_len _ _ _ _ _ _ _ _) ?_ h
        have := lenV_run (ty := ty) (w := w) hv
        have e : Builtin.len_ ats ty (as.map (ev f)) = Builtin.len_ #[t] ty #[x] := by
          unfold Builtin.len_
          rw [ht, hx]
          rfl
        rw [e]
        exact this
      · cases hv
    · obtain ⟨v, w', hr, hv⟩ := h
      exact val_of (ex_len _ _ _ _ _ _ _ _) hr hv
  | append => obtain ⟨v, w', hr, hv⟩ := h; exact val_of (ex_append _ _ _ _ _ _ _ _) hr hv
  | copy => obtain ⟨v, w', hr, hv⟩ := h; exact val_of (ex_copy _ _ _ _ _ _ _ _) hr hv
  | delete => obtain ⟨v, w', hr, hv⟩ := h; exact val_of (ex_delete _ _ _ _ _ _ _ _) hr hv
  | cap => obtain ⟨v, w', hr, hv⟩ := h; exact val_of (ex_cap _ _ _ _ _ _ _ _) hr hv
  | min => obtain ⟨v, w', hr, hv⟩ := h; exact val_of (ex_min _ _ _ _ _ _ _ _) hr hv
  | max => obtain ⟨v, w', hr, hv⟩ := h; exact val_of (ex_max _ _ _ _ _ _ _ _) hr hv
  | _ => cases hv

theorem step_val {dst : Option Tmp} {op : Op} {ty : TypeId} {pos : String} {after : Array Edge} {guard : Option (Nat × Bool)} {f : Fr} {w : World} {k : Value → World → Prop} (hv : isVal op = true) (h : stepK P op ty f w k) :
    ∃ v w', (execOp (ev f) ⟨dst, op, ty, pos, after, guard⟩).run P w = .ok (.value v) w' ∧ k v w' := by
  cases op with
  | move x => exact val_of (s := pure _) rfl rfl h
  | assign x => exact val_of (s := pure _) rfl rfl h
  | pick c x y =>
    unfold stepK pickW at h
    simp only at h
    split at h
    · rename_i b hb
      have e : (execOp (ev f) ⟨dst, .pick c x y, ty, pos, after, guard⟩).run P w = .ok (.value (if b = true then ev f x else ev f y)) w := by
        show (do pure (Next.value (if ← asBool (ev f c) then ev f x else ev f y)) : Sem Next).run P w = _
        rw [hb]; rfl
      exact ⟨_, _, e, h⟩
    · exact h.elim
  | nilCheck x =>
    unfold stepK optW at h
    simp only at h
    split at h
    · rename_i v hv
      unfold nilV at hv
      split at hv
      · rename_i b hb
        cases hv
        exact ⟨_, _, by simp only [execOp, hb]; rfl, h⟩
      · rename_i g fs cs hb
        cases hv
        exact ⟨_, _, by simp only [execOp, hb]; rfl, h⟩
      · cases hv
    · exact h.elim
  | binOp op t x y yt =>
    unfold stepK binK at h
    simp only at h
    split at h
    · rename_i r hr
      exact val_of (s := do eqGuard op t x y (ev f x) (ev f y); Go.binOp op t (ev f x) (ev f y)) rfl (binV_run hr x y w) h
    · obtain ⟨v, w', hr, hv⟩ := h
      exact val_of (s := do eqGuard op t x y (ev f x) (ev f y); Go.binOp op t (ev f x) (ev f y)) rfl hr hv
  | unOp op t x =>
    unfold stepK optW at h
    simp only at h
    split at h
    · rename_i v hv
      exact val_of (s := Op.unary op (ev f x)) rfl (unV_run hv) h
    · exact h.elim
  | convert s t x =>
    unfold stepK cvK at h
    simp only at h
    split at h
    · rename_i d kk k' m hs' ht hx
      refine val_of (s := Go.convert s t (ev f x)) rfl ?_ h
      rw [hx]
      simp [Go.convert, run_underlying' hs', run_underlying' ht, Conv.intToInt]
    · rename_i d b hs' ht hx
      refine val_of (s := Go.convert s t (ev f x)) rfl ?_ h
      rw [hx]
      simp [Go.convert, run_underlying' hs', run_underlying' ht]
    · obtain ⟨v, w', hr, hv⟩ := h
      exact val_of (s := Go.convert s t (ev f x)) rfl hr hv
  | extract x i =>
    unfold stepK optW at h
    simp only at h
    split at h
    · rename_i v hv
      refine val_of (s := Instr.extract (ev f x) i) rfl ?_ h
      unfold extV at hv
      split at hv
      · rename_i vs hx
        rw [hx]
        simp [Instr.extract, hv]
      · cases hv
    · exact h.elim
  | fieldAddr s x i =>
    unfold stepK optW at h
    simp only at h
    split at h
    · rename_i v hv
      exact val_of (s := Instr.fieldAt s (ev f x) i) rfl (fldV_run hv) h
    · exact h.elim
  | indexAddr t x i =>
    unfold stepK optW at h
    simp only at h
    split at h
    · rename_i v hv
      exact val_of (s := Instr.indexAt t (ev f x) (ev f i)) rfl (ixaV_run hv) h
    · exact h.elim
  | load t x =>
    unfold stepK optW at h
    simp only at h
    split at h
    · rename_i v hv
      exact val_of (s := Instr.loadAt t (ev f x)) rfl (ldV_run hv) h
    · exact h.elim
  | makeFunc fn first cap => exact val_of (s := Instr.makeFunc fn (first.map (ev f)) (cap.map (ev f))) rfl rfl h
  | box t x => exact val_of (s := Instr.box t (ev f x)) rfl rfl h
  | slice t x lo hi mx => obtain ⟨v, w', hr, hv⟩ := h; exact val_of (s := Instr.sliceAt t (ev f x) (lo.map (ev f)) (hi.map (ev f)) (mx.map (ev f))) rfl hr hv
  | buildSlice t n ps => obtain ⟨v, w', hr, hv⟩ := h; exact val_of (ex_bsl _ _ _ _ _ _ _ _ _) hr hv
  | build t ps => obtain ⟨v, w', hr, hv⟩ := h; exact val_of (ex_bld _ _ _ _ _ _ _ _) hr hv
  | alloc t => obtain ⟨v, w', hr, hv⟩ := h; exact val_of (s := Instr.alloc t true (.tuple #[])) rfl hr hv
  | field t x i => obtain ⟨v, w', hr, hv⟩ := h; exact val_of (s := Instr.field t (ev f x) i) rfl hr hv
  | index t x i => obtain ⟨v, w', hr, hv⟩ := h; exact val_of (s := Instr.index t (ev f x) (ev f i)) rfl hr hv
  | makeSlice t x y => obtain ⟨v, w', hr, hv⟩ := h; exact val_of (s := Instr.makeSlice t (ev f x) (ev f y)) rfl hr hv
  | makeMap t r => obtain ⟨v, w', hr, hv⟩ := h; exact val_of (s := Instr.makeMap t (r.map (ev f))) rfl hr hv
  | lookup t x i ok => obtain ⟨v, w', hr, hv⟩ := h; exact val_of (s := Instr.lookup t (ev f x) (ev f i) ok) rfl hr hv
  | range t x => obtain ⟨v, w', hr, hv⟩ := h; exact val_of (s := Instr.range t (ev f x)) rfl hr hv
  | next x b => obtain ⟨v, w', hr, hv⟩ := h; exact val_of (s := Instr.next (ev f x) b ty) rfl hr hv
  | entry x => obtain ⟨v, w', hr, hv⟩ := h; exact val_of (s := Instr.entry (ev f x)) rfl hr hv
  | call c =>
    obtain ⟨callee, args, ats⟩ := c
    cases callee with
    | value x => cases hv
    | invoke x m => cases hv
    | builtin b => exact blt_val hv h
  | _ => cases hv

theorem step_sound {n : Nat} {a : Act} {f : Fr} {w : World} {o : Oper} {K' : Act → World → Prop} {Q : Exit → Act → World → Prop} {k : Value → World → Prop} (hs : Sim n a f) (hok : opOk P o.op = true) (h : stepK P o.op o.type f w k)
    (hk : ∀ v w', k v w' → K' (a.put o.dst v) w') : o.wp P a w K' Q := by
  obtain ⟨dst, op, ty, pos, after, guard⟩ := o
  unfold Oper.wp
  rw [hs.eval]
  simp only at h hok hk
  cases hv : isVal op with
  | true =>
    obtain ⟨v, w', hr, hkv⟩ := step_val (dst := dst) (pos := pos) (after := after) (guard := guard) hv h
    rw [hr]
    exact hk _ _ hkv
  | false =>
    cases op with
    | store t x y =>
      unfold stepK stW at h
      simp only at h
      split at h
      · rename_i w' hv
        have e : (execOp (ev f) ⟨dst, .store t x y, ty, pos, after, guard⟩).run P w = .ok .skip w' := by
          show (do Instr.storeAt t (ev f x) (ev f y); pure Next.skip : Sem Next).run P w = _
          rw [Sem.run_bind, stV_run hv]; rfl
        rw [e]
        exact hk _ _ h
      · exact h.elim
    | mapUpdate t m i x =>
      obtain ⟨w', hr, hu⟩ := h
      have e : (execOp (ev f) ⟨dst, .mapUpdate t m i x, ty, pos, after, guard⟩).run P w = .ok .skip w' := by
        show (do Instr.mapUpdate t (ev f m) (ev f i) (ev f x); pure Next.skip : Sem Next).run P w = _
        rw [Sem.run_bind, hr]; rfl
      rw [e]
      exact hk _ _ hu
    | call c =>
      obtain ⟨callee, args, ats⟩ := c
      cases callee with
      | invoke x m => exact res_upon h hk
      | builtin b => cases b <;> first | (cases hv; done) | exact res_upon h hk
      | value x =>
        cases x with
        | func g =>
          cases hb : hasBody P g with
          | true =>
            refine call_upon ?_ hb h hk
            have := hasBody_run (P := P) hb (args.map (ev f)) w
            simp [execOp, resolve, Deferred.ofValue, invoke, ev, this]
          | false =>
            replace h : callK P g (args.map (ev f)) w k := h
            unfold callK at h
            rw [if_neg (by rw [hb]; decide)] at h
            obtain ⟨v, w', hr, hkv⟩ := h
            have e : (execOp (ev f) ⟨dst, .call ⟨.value (.func g), args, ats⟩, ty, pos, after, guard⟩).run P w = .ok (.value v) w' := by
              simp [execOp, resolve, Deferred.ofValue, invoke, ev, hr]
            rw [e]
            exact hk _ _ hkv
        | _ =>
          unfold stepK callS valS fnK at h
          simp only at h
          split at h
          · rename_i g first cap hx
            obtain ⟨hb, hc⟩ := h
            rw [Array.append_assoc] at hc
            refine call_upon ?_ hb hc hk
            have := hasBody_run (P := P) hb (first ++ (args.map (ev f) ++ cap)) w
            simp [execOp, resolve, Deferred.ofValue, invoke, hx, this]
          · exact h.elim
    | _ => first | (cases hv; done) | exact res_upon h hk

/-! ### a struct that is made -/
theorem places_run {w : World} : ∀ {fs : List Field} {l : List (Nat × Nat)}, placesOf P fs = some l → (fs.mapM (fun f => (do pure (f.offset, ← sizeOf f.type) : Sem (Nat × Nat)))).run P w = .ok l w
  | [], l, h => by simp [placesOf] at h; subst h; rfl
  | f :: fs, l, h => by
    unfold placesOf at h
    rw [List.mapM_cons] at h
    cases hs : sizeOf1 P f.type with
    | none => rw [hs] at h; cases h
    | some s =>
      rw [hs] at h
      cases hr : placesOf P fs with
      | none =>
        unfold placesOf at hr
        rw [hr] at h; cases h
      | some l' =>
        have hr' := hr
        unfold placesOf at hr
        rw [hr] at h
        cases h
        rw [List.mapM_cons, Sem.run_bind]
        have e : (do pure (f.offset, ← sizeOf f.type) : Sem (Nat × Nat)).run P w = .ok (f.offset, s) w := by
          unfold sizeOf1 at hs
          cases hi : P.info? f.type with
          | none => rw [hi] at hs; cases hs
          | some i =>
            rw [hi] at hs
            cases hs
            simp [sizeOf, typeInfo, hi]
        rw [e]
        simp only [Result.andThen_ok]
        rw [Sem.run_bind, places_run hr']
        rfl
theorem bldV_run {t : TypeId} {ps : Array (Nat × Value)} {v : Value} (h : bldV P t ps = some v) (w : World) : (Instr.build t ps).run P w = .ok v w := by
  unfold bldV at h
  split at h
  · rename_i fs z hu hz
    split at h
    · rename_i l hl
      cases hf : Instr.fill (l[·]?) z.cells ps.toList with
      | none => rw [hf] at h; cases h
      | some out =>
        rw [hf] at h
        cases h
        cases hi : P.info? t with
        | none => rw [hi] at hz; cases hz
        | some i =>
          rw [hi] at hz
          replace hz : i.zero = some z := hz
          have hp := places_run (P := P) (w := w) hl
          have hp' : (fs.mapM (fun f => (do pure (f.offset, ← sizeOf f.type) : Sem (Nat × Nat)))).run P w = .ok l.toArray w := by
            rw [Array.mapM_eq_mapM_toList, ← bind_pure_comp, Sem.run_bind, hp]
            rfl
          have hf' : Instr.fill (fun x => l.toArray[x]?) z.cells ps.toList = some out := by simpa using hf
          have hzv : (zeroValue t).run P w = .ok z w := by simp [zeroValue, typeInfo, hi, hz]
          unfold Instr.build
          rw [Sem.run_bind]
          have e1 : (do let x ← zeroValue t; pure x.cells : Sem (Array Value)).run P w = .ok z.cells w := by rw [Sem.run_bind, hzv]; rfl
          simp only [Sem.run_bind, hzv, Result.andThen_ok, run_underlying hu, hp', hf', Sem.run_pure]
    · cases h
  · cases h
end Go.Proofs.Ytnoeeiaffnbhcaa.M
