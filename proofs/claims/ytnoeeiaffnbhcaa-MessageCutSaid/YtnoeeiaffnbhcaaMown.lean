/- Rows of whole numbers that a call reads, or owns: building, appending, cutting. Conditions: those that each theorem names. -/
import Derived.Test.YtnoeeiaffnbhcaaMmem
import Derived.Laws.BytesArg
import Derived.Lib.ConvBytes
namespace Go.Proofs.Ytnoeeiaffnbhcaa.M
open Go.RowKit
variable {P : Program}

/-- A slice's places hold these numbers. -/
def RdI (w : World) (kd : IntKind) (A : Option Addr) (xs : List Int) : Prop := ∀ j x, xs[j]? = some x → ∃ ad, A = some ad ∧ w.cell? (ad.add j) = some (.int kd x)
/-- A slice of the call's own. -/
def OwnI (e : TypeId) (kd : IntKind) (b : Nat) (w : World) (v : Value) (xs : List Int) : Prop := w.ownsRow b e 1 v xs.length (xs.map (Value.int kd))
/-- The types of such a slice. -/
def IE (P : Program) (t e : TypeId) (kd : IntKind) (by_ : Nat) : Prop := P.underlying t = some (.slice e) ∧ (P.info? e).map (fun i => (i.zero, i.size, i.bytes)) = some (some (.int kd 0), 1, by_)

theorem OwnI.nil (e : TypeId) (kd : IntKind) (b : Nat) (w : World) : OwnI e kd b w (.slice none 0 0) [] := ⟨rfl, .inl ⟨rfl, rfl⟩⟩
theorem OwnI.slice {e : TypeId} {kd : IntKind} {b : Nat} {w : World} {v : Value} {xs : List Int} (h : OwnI e kd b w v xs) : ∃ A c, v = .slice A xs.length c ∧ xs.length ≤ c ∧ RdI w kd A xs := by
  rcases h.2 with ⟨hv, hn⟩ | ⟨g, cap, cur, hv, hb, hg, hc, hm, hs, ht⟩
  · have : xs = [] := List.eq_nil_of_length_eq_zero hn
    subst this
    exact ⟨none, 0, hv, Nat.le_refl _, fun j x hx => by simp at hx⟩
  · refine ⟨some ⟨g, 0, none⟩, cap, hv, hc, fun j x hx => ⟨_, rfl, ?_⟩⟩
    exact World.ownsRow.cells h (g := g) (by rw [hv]; rfl) j _ (by rw [List.getElem?_map, hx]; rfl)
theorem OwnI.lt {e : TypeId} {kd : IntKind} {b : Nat} {w : World} {v : Value} {xs : List Int} (h : OwnI e kd b w v xs) {k : Nat} (hk : some k = v.ownBlock) : b ≤ k ∧ k < w.heap.size := World.ownsRow.lt h k hk.symm
theorem OwnI.fx {e : TypeId} {kd : IntKind} {b : Nat} {m : Nat → Prop} {w w' : World} {v : Value} {xs : List Int} (h : OwnI e kd b w v xs) (hf : Fx m w w') (hn : ∀ k, some k = v.ownBlock → ¬ m k) : OwnI e kd b w' v xs := by
  refine ⟨h.1, ?_⟩
  rcases h.2 with hv | ⟨g, cap, cur, hv, hb, hg, r⟩
  · exact .inl hv
  · refine .inr ⟨g, cap, cur, hv, hb, ?_, r⟩
    rw [hf.block g (Array.getElem?_eq_some_iff.1 hg).1 (hn g (by rw [hv]; rfl))]
    exact hg
theorem RdI.fx {kd : IntKind} {m : Nat → Prop} {w w' : World} {A : Option Addr} {xs : List Int} (h : RdI w kd A xs) (hf : Fx m w w') (hn : ∀ ad, A = some ad → ¬ m ad.block) : RdI w' kd A xs := by
  intro j x hx
  obtain ⟨ad, e, hc⟩ := h j x hx
  refine ⟨ad, e, ?_⟩
  have hb : (ad.add j).block = ad.block := by unfold Addr.add; split <;> rfl
  have hlt := World.block_lt_of_cell? w _ hc
  rw [hb] at hlt
  have := hf.block ad.block hlt (hn ad e)
  unfold World.cell? at hc ⊢
  rw [hb] at hc ⊢
  rw [this]
  exact hc
theorem RdI.below {kd : IntKind} {w w' : World} {A : Option Addr} {xs : List Int} (h : RdI w kd A xs) (hf : Below w.heap.size w w') : RdI w' kd A xs := h.fx (Fx.of_below (m := fun _ => False) hf) (fun _ _ x => x)
theorem RdI.take {kd : IntKind} {w : World} {A : Option Addr} {xs : List Int} (h : RdI w kd A xs) (n : Nat) : RdI w kd A (xs.take n) := by
  intro j x hx
  rw [List.getElem?_take] at hx
  split at hx
  · exact h j x hx
  · cases hx
theorem RdI.drop {kd : IntKind} {w : World} {A : Option Addr} {xs : List Int} (h : RdI w kd A xs) (n : Nat) {A' : Option Addr} (hA : n < xs.length → A' = A.map (·.add n)) : RdI w kd A' (xs.drop n) := by
  intro j x hx
  rw [List.getElem?_drop] at hx
  obtain ⟨ad, e, hc⟩ := h _ x hx
  have hlt : n < xs.length := by have := (List.getElem?_eq_some_iff.1 hx).1; omega
  refine ⟨ad.add n, by rw [hA hlt, e]; rfl, ?_⟩
  have : (ad.add n).add j = ad.add (n + j) := by
    unfold Addr.add
    by_cases h0 : n = 0
    · subst h0; simp
    · by_cases h1 : j = 0
      · subst h1; simp
      · rw [if_neg h0, if_neg h1, if_neg (by omega)]
        simp [Nat.add_assoc]
  rw [this]; exact hc

theorem RdI.new (w : World) (e : TypeId) (kd : IntKind) (xs : List Int) : RdI (w.alloc (.cells (xs.map (Value.int kd)).toArray e)) kd (some ⟨w.heap.size, 0, none⟩) xs := by
  intro j x hx
  refine ⟨_, rfl, ?_⟩
  have : (⟨w.heap.size, 0, none⟩ : Addr).add j = ⟨w.heap.size, j, none⟩ := by unfold Addr.add; split <;> simp_all
  rw [this, (Blk.new w e _).cell]
  simp [hx]

theorem size_alloc (w : World) (o : Obj) : (w.alloc o).heap.size = w.heap.size + 1 := by show (w.heap.push o).size = _; simp
theorem OwnI.alloc {e : TypeId} {kd : IntKind} {b : Nat} {w : World} {v : Value} {xs : List Int} (h : OwnI e kd b w v xs) (o : Obj) : OwnI e kd b (w.alloc o) v xs := h.fx (Fx.alloc (fun _ => False) _ _) (fun _ _ x => x)
theorem Fx.then_alloc {m : Nat → Prop} {w w' : World} (h : Fx m w w') (o : Obj) : Fx m w (w'.alloc o) := h.trans (Fx.alloc m w' o) (fun _ _ x => x)
/-- What was written is a row of the call's own. -/
theorem Fx.then_own {m : Nat → Prop} {e : TypeId} {kd : IntKind} {w w1 w2 : World} {v : Value} {xs : List Int} (h : Fx m w w1) (ho : OwnI e kd w.heap.size w1 v xs) (h' : Fx (fun k => some k = v.ownBlock) w1 w2) : Fx m w w2 :=
  h.trans h' (fun k hk hm => by have := (ho.lt hm).1; omega)

theorem OwnI.new (w : World) (e : TypeId) (kd : IntKind) (xs : List Int) {b : Nat} (hb : b ≤ w.heap.size) (hl : xs.length ≤ 140737488355328) : OwnI e kd b (w.alloc (.cells (xs.map (Value.int kd)).toArray e)) (.slice (some ⟨w.heap.size, 0, none⟩) xs.length xs.length) xs := by
  refine ⟨by simp, .inr ⟨w.heap.size, xs.length, _, rfl, hb, Blk.new w e _, Nat.le_refl _, by simp only [maxLen]; omega, by simp, by
    rw [Nat.mul_one, List.take_of_length_le (by simp)]⟩⟩
theorem OwnI.lower {e : TypeId} {kd : IntKind} {b b' : Nat} {w : World} {v : Value} {xs : List Int} (h : OwnI e kd b w v xs) (hb : b' ≤ b) : OwnI e kd b' w v xs := by
  refine ⟨h.1, ?_⟩
  rcases h.2 with hv | ⟨g, cap, cur, hv, hg, r⟩
  · exact .inl hv
  · exact .inr ⟨g, cap, cur, hv, Nat.le_trans hb hg, r⟩

/-! ### append -/
theorem append_nil_run {t e ty : TypeId} {kd : IntKind} {by_ b : Nat} {w : World} {v : Value} {xs : List Int} (hT : IE P t e kd by_) (h : OwnI e kd b w v xs) (c : Nat) : (Builtin.append_ #[t, t] ty #[v, .slice none 0 c]).run P w = .ok v w := by
  obtain ⟨A, cap, rfl, hc, _⟩ := h.slice
  obtain ⟨ht, hi⟩ := hT
  cases hinfo : P.info? e with
  | none => rw [hinfo] at hi; cases hi
  | some i =>
    cases A <;> simp [Builtin.append_, run_underlying ht, sizeOf, typeInfo, hinfo, Builtin.lenOf, hc, Builtin.firstCells, storeCells]

theorem append_own {t e ty : TypeId} {kd : IntKind} {by_ b : Nat} {w : World} {v : Value} {xs ys : List Int} {A : Option Addr} {c : Nat} {k : Value → World → Prop} (hT : IE P t e kd by_) (hb0 : 0 < by_) (h : OwnI e kd b w v xs) (hr : RdI w kd A ys)
    (hlen : (xs.length + ys.length) * by_ ≤ 140737488355328) (hb : b ≤ w.heap.size)
    (hk : ∀ v' w', OwnI e kd b w' v' (xs ++ ys) → Fx (fun k => some k = v.ownBlock) w w' → (v'.ownBlock = v.ownBlock ∨ v'.ownBlock = some w.heap.size) → k v' w') : appK P #[t, t] ty #[v, .slice A ys.length c] w k := by
  cases A with
  | none =>
    have : ys = [] := by
      cases ys with
      | nil => rfl
      | cons y ys =>
        obtain ⟨ad, e, _⟩ := hr 0 y rfl
        cases e
    subst this
    rw [List.append_nil] at hk
    exact runK_of (append_nil_run hT h c) (hk v w h (Fx.refl _ _) (.inl rfl))
  | some ad =>
    obtain ⟨ht, hi⟩ := hT
    cases hinfo : P.info? e with
    | none => rw [hinfo] at hi; cases hi
    | some i =>
      rw [hinfo] at hi
      simp only [Option.map_some, Option.some.injEq, Prod.mk.injEq] at hi
      obtain ⟨hz, hs, hby⟩ := hi
      have hle : xs.length + ys.length ≤ 140737488355328 := Nat.le_trans (Nat.le_mul_of_pos_right _ hb0) hlen
      obtain ⟨v', w', hrun, hown, hg, _, hat⟩ := run_append_own_at (P := P) w b t ty e i (.int kd 0) 1 by_ ht hinfo hz hs hby rfl (by decide) v xs.length (xs.map (Value.int kd)) h ad ys.length c (ys.map (Value.int kd)) (by simp)
        (fun j u hu => by
          rw [List.getElem?_map] at hu
          cases hx : ys[j]? with
          | none => rw [hx] at hu; cases hu
          | some x =>
            rw [hx] at hu
            cases hu
            obtain ⟨ad', e, hc⟩ := hr j x hx
            cases e
            exact hc)
        (fun u hu => by obtain ⟨x, _, rfl⟩ := List.mem_map.1 hu; rfl) (by simp only [maxLen]; omega) hlen hb
      exact runK_of hrun (hk v' w' (by unfold OwnI; rw [List.length_append, List.map_append]; exact hown) ⟨hg.os, hg.tape, hg.output, hg.size, fun k hk hn => hg.block k hk hn⟩ hat)

/-! ### a slice written out -/
theorem bsl_one {t e : TypeId} {kd : IntKind} {by_ : Nat} {w : World} {x : Int} {k : Value → World → Prop} (hT : IE P t e kd by_) (hk : k (.slice (some ⟨w.heap.size, 0, none⟩) 1 1) (w.alloc (.cells #[.int kd x] e))) : bslK P t 1 #[(0, .int kd x)] w k := by
  obtain ⟨ht, hi⟩ := hT
  cases hinfo : P.info? e with
  | none => rw [hinfo] at hi; cases hi
  | some i =>
    rw [hinfo] at hi
    simp only [Option.map_some, Option.some.injEq, Prod.mk.injEq] at hi
    obtain ⟨hz, hs, hby⟩ := hi
    refine runK_of ?_ hk
    simp [Instr.buildSlice, run_underlying ht, sizeOf, typeInfo, hinfo, hs, zeroValue, hz, Instr.fill, Value.cells, newRow, newObj, go_sem]
    rfl
end Go.Proofs.Ytnoeeiaffnbhcaa.M
