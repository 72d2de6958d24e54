/- Are two messages the same? Is one greater than statements look at? Conditions: both are data of their kind. -/
import Derived.Test.YtnlibeaainbipaaGcells
import Derived.Test.YtnlibeaainbipaaGgreat
namespace Go.Proofs.Ytnlibeaainbipaa.M
variable {P : Program}
/-- The rest of the code is run from what the first part ends with. -/
theorem seq_cut {m a b : MC} {Q : Exit → Fr → World → Prop} {f : Fr} {w : World} (h : m = .seq a b) (T : Fr → World → Prop) (ht : ∀ f w, T f w → WM P b Q f w) (hh : ∀ K : Fr → World → Prop, (∀ f w, T f w → K f w) → WM P a (thenQ K Q) f w) : WM P m Q f w := by
  subst h
  exact hh (WM P b Q) ht
end Go.Proofs.Ytnlibeaainbipaa.M
namespace Go.Proofs.Ytnlibeaainbipaa.F
open Go.RowKit Go.Proofs.Ytnlibeaainbipaa.M Go.Proofs.Ytnlibeaainbipaa.V
set_option linter.unusedSimpArgs false
set_option linter.unusedVariables false
set_option maxRecDepth 20000
theorem sameItems_calls {U U' : Nat → Prop} {w : World} {A B : Option Addr} {c d : Nat} {xs ys : List MItem} (hl : xs.length ≤ 9223372036854775807) (hex : Elems kItem U w A xs) (hey : Elems kItem U' w B ys) :
    callK Try.prog 25 #[.slice A xs.length c, .slice B ys.length d] w fun v w' => Says (xs = ys) v ∧ Keep w w' := by
  refine callK_of Try.func25 c25 r25 (by exact Nat.le_of_ble_eq_true rfl) ?_
  rw [m25]
  by_cases hlen : xs.length = ys.length
  case neg =>
    have z : ((xs.length : Int) != (ys.length : Int)) = true := by rw [bne_iff_ne]; omega
    simp -implicitDefEqProofs only [go_sem, seval, z]
    exact ⟨says_false fun e => hlen (by rw [e]), Fx.refl _ _⟩
  have z : ((xs.length : Int) != (ys.length : Int)) = false := by rw [hlen]; simp
  simp -implicitDefEqProofs only [go_sem, seval, z]
  refine loop_intro (fun q f w' => ∃ i : Nat, q = xs.length - i ∧ i ≤ xs.length ∧ f 0 = .slice A xs.length c ∧ f 1 = .slice B ys.length d ∧ f 5 = .int .i64 i ∧ (∀ j, j < i → xs[j]? = ys[j]?) ∧ Keep w w') xs.length
    ⟨0, rfl, by omega, by simp -implicitDefEqProofs only [go_sem, seval], by simp -implicitDefEqProofs only [go_sem, seval], by simp -implicitDefEqProofs only [go_sem, seval] <;> rfl, fun j hj => by omega, Fx.refl _ _⟩ ?_
  rintro q f w1 ⟨i, rfl, hi, g0, g1, g5, hpre, kk⟩
  by_cases hlt : i < xs.length
  · have i0 : (0 : Int) ≤ (i : Int) := by omega
    have i1 : (i : Int) < (xs.length : Int) := by omega
    have i2 : (i : Int) < (ys.length : Int) := by omega
    have en : IntKind.i64.wrap ((i : Int) + 1) = ((i + 1 : Nat) : Int) := i64_nat (by omega) (by omega)
    obtain ⟨x, ex⟩ : ∃ x, xs[i]? = some x := ⟨_, List.getElem?_eq_getElem hlt⟩
    obtain ⟨y, ey⟩ : ∃ y, ys[i]? = some y := ⟨_, List.getElem?_eq_getElem (by omega)⟩
    obtain ⟨ad, rfl, _, cs, hrx, hcx⟩ := hex.keep kk i x ex
    obtain ⟨bd, rfl, _, ds, hry, hcy⟩ := hey.keep kk i y ey
    have e4 : kItem.sz = 3 := rfl
    rw [e4] at hcx hcy
    have hS : ∀ w', Keep w1 w' → ldV Try.prog w' 58 (.pointer (some (ad.add (i * 3)))) = some (.agg cs.toArray) ∧ ldV Try.prog w' 58 (.pointer (some (bd.add (i * 3)))) = some (.agg ds.toArray) := by
      intro w' k'
      have kx := hcx.ext (w' := w') (fun hlt => k'.block _ hlt (fun x => x))
      have ky := hcy.ext (w' := w') (fun hlt => k'.block _ hlt (fun x => x))
      exact ⟨ldV_agg (P := Try.prog) sh58 (kItem.len hrx) kx, ldV_agg (P := Try.prog) sh58 (kItem.len hry) ky⟩
    simp -implicitDefEqProofs only [go_sem, seval, g0, g1, g5, i0, i1, i2]
    refine seg_intro (fun w' => Keep w1 w') (Fx.drew _ _) ?_
    simp -implicitDefEqProofs only [go_sem, seval, g0, g1, g5, i0, i1, i2]
    refine hld_intro (.agg cs.toArray) (Fx.drew _ _) (fun w' hw' => by have := (hS w' hw').1; simp -implicitDefEqProofs only [go_sem, seval, this]; exact ⟨trivial, trivial⟩) ?_
    have hd3 := (hS w1.drew (Fx.drew _ _)).2
    simp -implicitDefEqProofs only [go_sem, seval, g0, g1, g5, i0, i1, i2, hd3]
    refine goE_intro (Fx.drew _ _) ?_
    have kk1 : Keep w w1.drew := kk.tr (Fx.drew _ _)
    simp -implicitDefEqProofs only [go_sem, seval]
    refine (sameItem_calls (kItem.keep hrx (Fx.drew _ _)) (kItem.keep hry (Fx.drew _ _))).mono ?_
    rintro v w2 ⟨⟨q, rfl, hq⟩, k2⟩
    have kk2 := kk1.tr k2
    cases q with
    | true =>
      have hxy : x = y := hq.1 rfl
      simp -implicitDefEqProofs only [go_sem, seval, g0, g1, g5, en]
      refine ⟨xs.length - (i + 1), by omega, i + 1, rfl, by omega, by simp -implicitDefEqProofs only [go_sem, seval, g0], by simp -implicitDefEqProofs only [go_sem, seval, g1], by simp -implicitDefEqProofs only [go_sem, seval], fun j hj => ?_, kk2⟩
      by_cases e : j = i
      · subst e; rw [ex, ey, hxy]
      · exact hpre j (by omega)
    | false =>
      simp -implicitDefEqProofs only [go_sem, seval]
      refine ⟨says_false fun e => ?_, kk2⟩
      rw [e, ey] at ex
      cases ex
      have := hq.2 rfl
      cases this
  · have i1 : ¬ (i : Int) < (xs.length : Int) := by omega
    simp -implicitDefEqProofs only [go_sem, seval, g0, g1, g5, i1]
    exact ⟨says_true (lists_eq hlen fun j hj => hpre j (by omega)), kk⟩
theorem foHit : Try.prog.fieldsOf 107 = #[⟨"Dist", 2, 0, false, "", "", 0⟩, ⟨"Id", 28, 1, false, "", "", 8⟩] := by kernel_rfl
theorem bin_hit {w : World} {x y : Operand} {k : Value → World → Prop} {a b : MHit} (hk : ∀ q : Bool, (q = true ↔ a = b) → k (.bool (!q)) w) :
    binK Try.prog .neq 107 x y (.agg #[.int .i64 a.dist, .int .u32 a.id]) (.agg #[.int .i64 b.dist, .int .u32 b.id]) w k := by
  have h1 : (Op.equalIn 10000 107 (.agg #[.int .i64 a.dist, .int .u32 a.id]) (.agg #[.int .i64 b.dist, .int .u32 b.id])).run Try.prog w = .ok (a.dist == b.dist && a.id == b.id) w := by
    rw [run_equalIn_struct w 9999 107 _ _ (by kernel_rfl) (by kernel_rfl), foHit]
    simp [go_sem, Op.eqFields]
    repeat' split
    all_goals simp_all
  refine runK_of (v := .bool (!(a.dist == b.dist && a.id == b.id))) (w' := w) ?_ (hk _ (by cases a; cases b; simp))
  rw [Sem.run_bind, run_eqGuard_agg w _ _ _ _ _ _ (by kernel_rfl)]
  simp only [Result.andThen]
  rw [run_neq_struct, h1]
  rfl
theorem sameHits_calls {U U' : Nat → Prop} {w : World} {A B : Option Addr} {c d : Nat} {xs ys : List MHit} (hl : xs.length ≤ 9223372036854775807) (hex : Elems kHit U w A xs) (hey : Elems kHit U' w B ys) :
    callK Try.prog 26 #[.slice A xs.length c, .slice B ys.length d] w fun v w' => Says (xs = ys) v ∧ Keep w w' := by
  refine callK_of Try.func26 c26 r26 (by exact Nat.le_of_ble_eq_true rfl) ?_
  rw [m26]
  by_cases hlen : xs.length = ys.length
  case neg =>
    have z : ((xs.length : Int) != (ys.length : Int)) = true := by rw [bne_iff_ne]; omega
    simp -implicitDefEqProofs only [go_sem, seval, z]
    exact ⟨says_false fun e => hlen (by rw [e]), Fx.refl _ _⟩
  have z : ((xs.length : Int) != (ys.length : Int)) = false := by rw [hlen]; simp
  simp -implicitDefEqProofs only [go_sem, seval, z]
  refine loop_intro (fun q f w' => ∃ i : Nat, q = xs.length - i ∧ i ≤ xs.length ∧ f 0 = .slice A xs.length c ∧ f 1 = .slice B ys.length d ∧ f 5 = .int .i64 i ∧ (∀ j, j < i → xs[j]? = ys[j]?) ∧ Keep w w') xs.length
    ⟨0, rfl, by omega, by simp -implicitDefEqProofs only [go_sem, seval], by simp -implicitDefEqProofs only [go_sem, seval], by simp -implicitDefEqProofs only [go_sem, seval] <;> rfl, fun j hj => by omega, Fx.refl _ _⟩ ?_
  rintro q f w1 ⟨i, rfl, hi, g0, g1, g5, hpre, kk⟩
  by_cases hlt : i < xs.length
  · have i0 : (0 : Int) ≤ (i : Int) := by omega
    have i1 : (i : Int) < (xs.length : Int) := by omega
    have i2 : (i : Int) < (ys.length : Int) := by omega
    have en : IntKind.i64.wrap ((i : Int) + 1) = ((i + 1 : Nat) : Int) := i64_nat (by omega) (by omega)
    obtain ⟨x, ex⟩ : ∃ x, xs[i]? = some x := ⟨_, List.getElem?_eq_getElem hlt⟩
    obtain ⟨y, ey⟩ : ∃ y, ys[i]? = some y := ⟨_, List.getElem?_eq_getElem (by omega)⟩
    obtain ⟨ad, rfl, _, cs, hrx, hcx⟩ := hex.keep kk i x ex
    obtain ⟨bd, rfl, _, ds, hry, hcy⟩ := hey.keep kk i y ey
    have e4 : kHit.sz = 2 := rfl
    rw [e4] at hcx hcy
    have hS : ∀ w', Keep w1 w' → ldV Try.prog w' 107 (.pointer (some (ad.add (i * 2)))) = some (.agg cs.toArray) ∧ ldV Try.prog w' 107 (.pointer (some (bd.add (i * 2)))) = some (.agg ds.toArray) := by
      intro w' k'
      have kx := hcx.ext (w' := w') (fun hlt => k'.block _ hlt (fun x => x))
      have ky := hcy.ext (w' := w') (fun hlt => k'.block _ hlt (fun x => x))
      exact ⟨ldV_agg (P := Try.prog) sh107 (kHit.len hrx) kx, ldV_agg (P := Try.prog) sh107 (kHit.len hry) ky⟩
    simp -implicitDefEqProofs only [go_sem, seval, g0, g1, g5, i0, i1, i2]
    refine seg_intro (fun w' => Keep w1 w') (Fx.drew _ _) ?_
    simp -implicitDefEqProofs only [go_sem, seval, g0, g1, g5, i0, i1, i2]
    refine hld_intro (.agg cs.toArray) (Fx.drew _ _) (fun w' hw' => by have := (hS w' hw').1; simp -implicitDefEqProofs only [go_sem, seval, this]; exact ⟨trivial, trivial⟩) ?_
    have hd3 := (hS w1.drew (Fx.drew _ _)).2
    simp -implicitDefEqProofs only [go_sem, seval, g0, g1, g5, i0, i1, i2, hd3]
    refine goE_intro (Fx.drew _ _) ?_
    have kk1 : Keep w w1.drew := kk.tr (Fx.drew _ _)
    obtain ⟨rfl, _⟩ := kHit_cases hrx
    obtain ⟨rfl, _⟩ := kHit_cases hry
    simp -implicitDefEqProofs only [go_sem, seval]
    refine bin_hit fun q hq => ?_
    have kk2 := kk1
    cases q with
    | true =>
      have hxy : x = y := hq.1 rfl
      simp -implicitDefEqProofs only [go_sem, seval, g0, g1, g5, en]
      refine ⟨xs.length - (i + 1), by omega, i + 1, rfl, by omega, by simp -implicitDefEqProofs only [go_sem, seval, g0], by simp -implicitDefEqProofs only [go_sem, seval, g1], by simp -implicitDefEqProofs only [go_sem, seval], fun j hj => ?_, kk2⟩
      by_cases e : j = i
      · subst e; rw [ex, ey, hxy]
      · exact hpre j (by omega)
    | false =>
      simp -implicitDefEqProofs only [go_sem, seval]
      refine ⟨says_false fun e => ?_, kk2⟩
      rw [e, ey] at ex
      cases ex
      have := hq.2 rfl
      cases this
  · have i1 : ¬ (i : Int) < (xs.length : Int) := by omega
    simp -implicitDefEqProofs only [go_sem, seval, g0, g1, g5, i1]
    exact ⟨says_true (lists_eq hlen fun j hj => hpre j (by omega)), kk⟩
theorem same_calls {U U' : Nat → Prop} {w : World} {x y : Msg} {cs ds : List Value} (hx : kMsg.rep U w x cs) (hy : kMsg.rep U' w y ds) : callK Try.prog 10 #[.agg cs.toArray, .agg ds.toArray] w fun v w' => Says (x = y) v ∧ Keep w w' := by
  refine callK_of Try.func10 c10 r10 (by exact Nat.le_of_ble_eq_true rfl) ?_
  obtain ⟨A_changes, c_changes, A_vec, c_vec, Aa, ca, Ab, cb, Ac, cc, A_bytes, c_bytes, A_names, c_names, A_items, c_items, A_hits, c_hits, rfl, x_kind, x_req, x_caps, x_token, x_code, x_n, x_name, x_conf, x_changes, x_id, x_vec, x_k, x_width, x_filter, x_num, x_page, x_bytes, x_version, x_names, x_items, x_hits⟩ := kMsg_cases hx
  obtain ⟨A_changes', c_changes', A_vec', c_vec', Aa', ca', Ab', cb', Ac', cc', A_bytes', c_bytes', A_names', c_names', A_items', c_items', A_hits', c_hits', rfl, y_kind, y_req, y_caps, y_token, y_code, y_n, y_name, y_conf, y_changes, y_id, y_vec, y_k, y_width, y_filter, y_num, y_page, y_bytes, y_version, y_names, y_items, y_hits⟩ := kMsg_cases hy
  obtain ⟨_, _, _, _, _, _, e1, m1, m2, m3, l1, l2, l3, f1, f2, f3⟩ := kFilter_cases x_filter
  simp only [List.cons.injEq, Value.slice.injEq, true_and, and_true] at e1
  obtain ⟨⟨rfl, rfl⟩, ⟨rfl, rfl⟩, rfl, rfl⟩ := e1
  obtain ⟨_, _, _, _, _, _, e1, _, _, _, _, _, _, f1', f2', f3'⟩ := kFilter_cases y_filter
  simp only [List.cons.injEq, Value.slice.injEq, true_and, and_true] at e1
  obtain ⟨⟨rfl, rfl⟩, ⟨rfl, rfl⟩, rfl, rfl⟩ := e1
  have ml : ∀ n c : Nat, n ≤ c → c ≤ maxLen → n ≤ 9223372036854775807 := fun n c h1 h2 => by simp only [maxLen] at h2; omega
  obtain ⟨b1, hb1⟩ : ∃ b, b = w.heap.size := ⟨_, rfl⟩
  obtain ⟨b2, hb2⟩ : ∃ b, b = w.heap.size + 1 := ⟨_, rfl⟩
  refine seq_cut rfl (fun f w' => f 2 = .pointer (some (At b1 0)) ∧ f 3 = .pointer (some (At b2 0)) ∧ Blk w' b1 42 #[.int .u8 x.kind, .int .u32 x.req, .int .u32 x.caps, .int .u64 x.token, .int .u8 x.code, .int .u32 x.n, .string x.name, .string x.conf.name, .int .u8 x.conf.dim, .int .u8 x.conf.metric, .bool x.conf.graph, .int .u8 x.conf.links, .int .u16 x.conf.width, .slice A_changes x.changes.length c_changes, .int .u32 x.id, .slice A_vec x.vec.length c_vec, .int .u16 x.k, .int .u16 x.width, .slice Aa x.filter.all.length ca, .slice Ab x.filter.any.length cb, .slice Ac x.filter.none.length cc, .int .u32 x.num, .int .u32 x.page, .slice A_bytes x.bytes.length c_bytes, .int .u64 x.version, .slice A_names x.names.length c_names, .slice A_items x.items.length c_items, .slice A_hits x.hits.length c_hits] ∧ Blk w' b2 42 #[.int .u8 y.kind, .int .u32 y.req, .int .u32 y.caps, .int .u64 y.token, .int .u8 y.code, .int .u32 y.n, .string y.name, .string y.conf.name, .int .u8 y.conf.dim, .int .u8 y.conf.metric, .bool y.conf.graph, .int .u8 y.conf.links, .int .u16 y.conf.width, .slice A_changes' y.changes.length c_changes', .int .u32 y.id, .slice A_vec' y.vec.length c_vec', .int .u16 y.k, .int .u16 y.width, .slice Aa' y.filter.all.length ca', .slice Ab' y.filter.any.length cb', .slice Ac' y.filter.none.length cc', .int .u32 y.num, .int .u32 y.page, .slice A_bytes' y.bytes.length c_bytes', .int .u64 y.version, .slice A_names' y.names.length c_names', .slice A_items' y.items.length c_items', .slice A_hits' y.hits.length c_hits'] ∧ Keep w w') ?r0 ?h0
  case h0 =>
    intro K hK
    simp -implicitDefEqProofs only [go_sem, seval, size_alloc]
    refine hK _ _ ⟨by simp -implicitDefEqProofs only [go_sem, seval, hb1], by simp -implicitDefEqProofs only [go_sem, seval, hb2], hb1 ▸ (Blk.new w _ _).alloc _, ?_, (Fx.alloc _ _ _).tr (Fx.alloc _ _ _)⟩
    have := Blk.new (w.alloc (.cells #[.int .u8 x.kind, .int .u32 x.req, .int .u32 x.caps, .int .u64 x.token, .int .u8 x.code, .int .u32 x.n, .string x.name, .string x.conf.name, .int .u8 x.conf.dim, .int .u8 x.conf.metric, .bool x.conf.graph, .int .u8 x.conf.links, .int .u16 x.conf.width, .slice A_changes x.changes.length c_changes, .int .u32 x.id, .slice A_vec x.vec.length c_vec, .int .u16 x.k, .int .u16 x.width, .slice Aa x.filter.all.length ca, .slice Ab x.filter.any.length cb, .slice Ac x.filter.none.length cc, .int .u32 x.num, .int .u32 x.page, .slice A_bytes x.bytes.length c_bytes, .int .u64 x.version, .slice A_names x.names.length c_names, .slice A_items x.items.length c_items, .slice A_hits x.hits.length c_hits] 42)) 42 #[.int .u8 y.kind, .int .u32 y.req, .int .u32 y.caps, .int .u64 y.token, .int .u8 y.code, .int .u32 y.n, .string y.name, .string y.conf.name, .int .u8 y.conf.dim, .int .u8 y.conf.metric, .bool y.conf.graph, .int .u8 y.conf.links, .int .u16 y.conf.width, .slice A_changes' y.changes.length c_changes', .int .u32 y.id, .slice A_vec' y.vec.length c_vec', .int .u16 y.k, .int .u16 y.width, .slice Aa' y.filter.all.length ca', .slice Ab' y.filter.any.length cb', .slice Ac' y.filter.none.length cc', .int .u32 y.num, .int .u32 y.page, .slice A_bytes' y.bytes.length c_bytes', .int .u64 y.version, .slice A_names' y.names.length c_names', .slice A_items' y.items.length c_items', .slice A_hits' y.hits.length c_hits']
    rw [size_alloc] at this
    rw [hb2]
    exact this
  clear hb1 hb2
  rintro f w0 ⟨g2, g3, B1, B2, k0⟩
  refine seq_cut rfl (fun f w' => f 2 = .pointer (some (At b1 0)) ∧ f 3 = .pointer (some (At b2 0)) ∧ (∃ q, f 5 = .bool q ∧ (q = true ↔ x.kind = y.kind ∧ x.req = y.req ∧ x.caps = y.caps ∧ x.token = y.token ∧ x.code = y.code ∧ x.n = y.n ∧ x.name = y.name ∧ x.conf = y.conf ∧ x.changes = y.changes ∧ x.id = y.id ∧ x.vec = y.vec)) ∧ Blk w' b1 42 #[.int .u8 x.kind, .int .u32 x.req, .int .u32 x.caps, .int .u64 x.token, .int .u8 x.code, .int .u32 x.n, .string x.name, .string x.conf.name, .int .u8 x.conf.dim, .int .u8 x.conf.metric, .bool x.conf.graph, .int .u8 x.conf.links, .int .u16 x.conf.width, .slice A_changes x.changes.length c_changes, .int .u32 x.id, .slice A_vec x.vec.length c_vec, .int .u16 x.k, .int .u16 x.width, .slice Aa x.filter.all.length ca, .slice Ab x.filter.any.length cb, .slice Ac x.filter.none.length cc, .int .u32 x.num, .int .u32 x.page, .slice A_bytes x.bytes.length c_bytes, .int .u64 x.version, .slice A_names x.names.length c_names, .slice A_items x.items.length c_items, .slice A_hits x.hits.length c_hits] ∧ Blk w' b2 42 #[.int .u8 y.kind, .int .u32 y.req, .int .u32 y.caps, .int .u64 y.token, .int .u8 y.code, .int .u32 y.n, .string y.name, .string y.conf.name, .int .u8 y.conf.dim, .int .u8 y.conf.metric, .bool y.conf.graph, .int .u8 y.conf.links, .int .u16 y.conf.width, .slice A_changes' y.changes.length c_changes', .int .u32 y.id, .slice A_vec' y.vec.length c_vec', .int .u16 y.k, .int .u16 y.width, .slice Aa' y.filter.all.length ca', .slice Ab' y.filter.any.length cb', .slice Ac' y.filter.none.length cc', .int .u32 y.num, .int .u32 y.page, .slice A_bytes' y.bytes.length c_bytes', .int .u64 y.version, .slice A_names' y.names.length c_names', .slice A_items' y.items.length c_items', .slice A_hits' y.hits.length c_hits'] ∧ Keep w w') ?r1 ?h1
  case h1 =>
    intro K hK
    obtain ⟨q_kind, z_kind, t_kind⟩ : ∃ q, (x.kind == y.kind) = q ∧ (q = true ↔ x.kind = y.kind) := ⟨_, rfl, beq_iff_eq⟩
    cases q_kind with
    | false =>
      simp -implicitDefEqProofs only [go_sem, seval, g2, g3, z_kind, B1.cell, B2.cell]
      exact hK _ _ ⟨by simp -implicitDefEqProofs only [go_sem, seval, g2], by simp -implicitDefEqProofs only [go_sem, seval, g3], ⟨false, by simp -implicitDefEqProofs only [go_sem, seval], ⟨fun h => (by cases h), fun h => by obtain ⟨h0, h1, h2, h3, h4, h5, h6, h7, h8, h9, h10⟩ := h; exact absurd h0 (fun h => by cases t_kind.2 h)⟩⟩, B1, B2, k0⟩
    | true =>
    obtain ⟨q_req, z_req, t_req⟩ : ∃ q, (x.req == y.req) = q ∧ (q = true ↔ x.req = y.req) := ⟨_, rfl, beq_iff_eq⟩
    cases q_req with
    | false =>
      simp -implicitDefEqProofs only [go_sem, seval, g2, g3, z_kind, z_req, B1.cell, B2.cell]
      exact hK _ _ ⟨by simp -implicitDefEqProofs only [go_sem, seval, g2], by simp -implicitDefEqProofs only [go_sem, seval, g3], ⟨false, by simp -implicitDefEqProofs only [go_sem, seval], ⟨fun h => (by cases h), fun h => by obtain ⟨h0, h1, h2, h3, h4, h5, h6, h7, h8, h9, h10⟩ := h; exact absurd h1 (fun h => by cases t_req.2 h)⟩⟩, B1, B2, k0⟩
    | true =>
    obtain ⟨q_caps, z_caps, t_caps⟩ : ∃ q, (x.caps == y.caps) = q ∧ (q = true ↔ x.caps = y.caps) := ⟨_, rfl, beq_iff_eq⟩
    cases q_caps with
    | false =>
      simp -implicitDefEqProofs only [go_sem, seval, g2, g3, z_kind, z_req, z_caps, B1.cell, B2.cell]
      exact hK _ _ ⟨by simp -implicitDefEqProofs only [go_sem, seval, g2], by simp -implicitDefEqProofs only [go_sem, seval, g3], ⟨false, by simp -implicitDefEqProofs only [go_sem, seval], ⟨fun h => (by cases h), fun h => by obtain ⟨h0, h1, h2, h3, h4, h5, h6, h7, h8, h9, h10⟩ := h; exact absurd h2 (fun h => by cases t_caps.2 h)⟩⟩, B1, B2, k0⟩
    | true =>
    obtain ⟨q_token, z_token, t_token⟩ : ∃ q, (x.token == y.token) = q ∧ (q = true ↔ x.token = y.token) := ⟨_, rfl, beq_iff_eq⟩
    cases q_token with
    | false =>
      simp -implicitDefEqProofs only [go_sem, seval, g2, g3, z_kind, z_req, z_caps, z_token, B1.cell, B2.cell]
      exact hK _ _ ⟨by simp -implicitDefEqProofs only [go_sem, seval, g2], by simp -implicitDefEqProofs only [go_sem, seval, g3], ⟨false, by simp -implicitDefEqProofs only [go_sem, seval], ⟨fun h => (by cases h), fun h => by obtain ⟨h0, h1, h2, h3, h4, h5, h6, h7, h8, h9, h10⟩ := h; exact absurd h3 (fun h => by cases t_token.2 h)⟩⟩, B1, B2, k0⟩
    | true =>
    obtain ⟨q_code, z_code, t_code⟩ : ∃ q, (x.code == y.code) = q ∧ (q = true ↔ x.code = y.code) := ⟨_, rfl, beq_iff_eq⟩
    cases q_code with
    | false =>
      simp -implicitDefEqProofs only [go_sem, seval, g2, g3, z_kind, z_req, z_caps, z_token, z_code, B1.cell, B2.cell]
      exact hK _ _ ⟨by simp -implicitDefEqProofs only [go_sem, seval, g2], by simp -implicitDefEqProofs only [go_sem, seval, g3], ⟨false, by simp -implicitDefEqProofs only [go_sem, seval], ⟨fun h => (by cases h), fun h => by obtain ⟨h0, h1, h2, h3, h4, h5, h6, h7, h8, h9, h10⟩ := h; exact absurd h4 (fun h => by cases t_code.2 h)⟩⟩, B1, B2, k0⟩
    | true =>
    obtain ⟨q_n, z_n, t_n⟩ : ∃ q, (x.n == y.n) = q ∧ (q = true ↔ x.n = y.n) := ⟨_, rfl, beq_iff_eq⟩
    cases q_n with
    | false =>
      simp -implicitDefEqProofs only [go_sem, seval, g2, g3, z_kind, z_req, z_caps, z_token, z_code, z_n, B1.cell, B2.cell]
      exact hK _ _ ⟨by simp -implicitDefEqProofs only [go_sem, seval, g2], by simp -implicitDefEqProofs only [go_sem, seval, g3], ⟨false, by simp -implicitDefEqProofs only [go_sem, seval], ⟨fun h => (by cases h), fun h => by obtain ⟨h0, h1, h2, h3, h4, h5, h6, h7, h8, h9, h10⟩ := h; exact absurd h5 (fun h => by cases t_n.2 h)⟩⟩, B1, B2, k0⟩
    | true =>
    obtain ⟨q_name, z_name, t_name⟩ : ∃ q, (x.name.toList == y.name.toList) = q ∧ (q = true ↔ x.name = y.name) := ⟨_, rfl, str_ne⟩
    cases q_name with
    | false =>
      simp -implicitDefEqProofs only [go_sem, seval, g2, g3, z_kind, z_req, z_caps, z_token, z_code, z_n, z_name, B1.cell, B2.cell]
      exact hK _ _ ⟨by simp -implicitDefEqProofs only [go_sem, seval, g2], by simp -implicitDefEqProofs only [go_sem, seval, g3], ⟨false, by simp -implicitDefEqProofs only [go_sem, seval], ⟨fun h => (by cases h), fun h => by obtain ⟨h0, h1, h2, h3, h4, h5, h6, h7, h8, h9, h10⟩ := h; exact absurd h6 (fun h => by cases t_name.2 h)⟩⟩, B1, B2, k0⟩
    | true =>
    have lx := ldV_agg (P := Try.prog) (w := w0) sh33 (cs := [.string x.conf.name, .int .u8 x.conf.dim, .int .u8 x.conf.metric, .bool x.conf.graph, .int .u8 x.conf.links, .int .u16 x.conf.width]) rfl (ad := At b1 7) (cells_in B1 7 6)
    have ly := ldV_agg (P := Try.prog) (w := w0) sh33 (cs := [.string y.conf.name, .int .u8 y.conf.dim, .int .u8 y.conf.metric, .bool y.conf.graph, .int .u8 y.conf.links, .int .u16 y.conf.width]) rfl (ad := At b2 7) (cells_in B2 7 6)
    simp -implicitDefEqProofs only [go_sem, seval, g2, g3, z_kind, z_req, z_caps, z_token, z_code, z_n, z_name, B1.cell, B2.cell, lx, ly]
    refine bin_conf (a := x.conf) (b := y.conf) fun q_conf t_conf => ?_
    cases q_conf with
    | false =>
      simp -implicitDefEqProofs only [go_sem, seval, g2, g3]
      exact hK _ _ ⟨by simp -implicitDefEqProofs only [go_sem, seval, g2], by simp -implicitDefEqProofs only [go_sem, seval, g3], ⟨false, by simp -implicitDefEqProofs only [go_sem, seval], ⟨fun h => (by cases h), fun h => by obtain ⟨h0, h1, h2, h3, h4, h5, h6, h7, h8, h9, h10⟩ := h; exact absurd h7 (fun h => by cases t_conf.2 h)⟩⟩, B1, B2, k0⟩
    | true =>
    simp -implicitDefEqProofs only [go_sem, seval, g2, g3, B1.cell, B2.cell]
    refine (sameChanges_calls (U := U) (U' := U') (xs := x.changes) (ys := y.changes) ⟨_, _, rfl, x_changes.1, x_changes.2.1, x_changes.2.2.keep k0⟩ ⟨_, _, rfl, y_changes.1, y_changes.2.1, y_changes.2.2.keep k0⟩).mono ?_
    rintro v v1 ⟨⟨q_changes, rfl, t_changes⟩, kc1⟩
    have B1 := kc1.blk B1 (fun x => x)
    have B2 := kc1.blk B2 (fun x => x)
    have kz1 := k0.tr kc1
    cases q_changes with
    | false =>
      simp -implicitDefEqProofs only [go_sem, seval, g2, g3]
      exact hK _ _ ⟨by simp -implicitDefEqProofs only [go_sem, seval, g2], by simp -implicitDefEqProofs only [go_sem, seval, g3], ⟨false, by simp -implicitDefEqProofs only [go_sem, seval], ⟨fun h => (by cases h), fun h => by obtain ⟨h0, h1, h2, h3, h4, h5, h6, h7, h8, h9, h10⟩ := h; exact absurd h8 (fun h => by cases t_changes.2 h)⟩⟩, B1, B2, kz1⟩
    | true =>
    obtain ⟨q_id, z_id, t_id⟩ : ∃ q, (x.id == y.id) = q ∧ (q = true ↔ x.id = y.id) := ⟨_, rfl, beq_iff_eq⟩
    cases q_id with
    | false =>
      simp -implicitDefEqProofs only [go_sem, seval, g2, g3, z_id, B1.cell, B2.cell]
      exact hK _ _ ⟨by simp -implicitDefEqProofs only [go_sem, seval, g2], by simp -implicitDefEqProofs only [go_sem, seval, g3], ⟨false, by simp -implicitDefEqProofs only [go_sem, seval], ⟨fun h => (by cases h), fun h => by obtain ⟨h0, h1, h2, h3, h4, h5, h6, h7, h8, h9, h10⟩ := h; exact absurd h9 (fun h => by cases t_id.2 h)⟩⟩, B1, B2, kz1⟩
    | true =>
    simp -implicitDefEqProofs only [go_sem, seval, g2, g3, z_id, B1.cell, B2.cell]
    refine (sameInts_calls (ml _ _ x_vec.1 x_vec.2.1) (x_vec.2.2.keep kz1) (y_vec.2.2.keep kz1)).mono ?_
    rintro v v2 ⟨⟨q_vec, rfl, t_vec⟩, kc2⟩
    have B1 := kc2.blk B1 (fun x => x)
    have B2 := kc2.blk B2 (fun x => x)
    have kz2 := kz1.tr kc2
    cases q_vec with
    | false =>
      simp -implicitDefEqProofs only [go_sem, seval, g2, g3]
      exact hK _ _ ⟨by simp -implicitDefEqProofs only [go_sem, seval, g2], by simp -implicitDefEqProofs only [go_sem, seval, g3], ⟨false, by simp -implicitDefEqProofs only [go_sem, seval], ⟨fun h => (by cases h), fun h => by obtain ⟨h0, h1, h2, h3, h4, h5, h6, h7, h8, h9, h10⟩ := h; exact absurd h10 (fun h => by cases t_vec.2 h)⟩⟩, B1, B2, kz2⟩
    | true =>
    simp -implicitDefEqProofs only [go_sem, seval, g2, g3, B1.cell, B2.cell]
    exact hK _ _ ⟨by simp -implicitDefEqProofs only [go_sem, seval, g2], by simp -implicitDefEqProofs only [go_sem, seval, g3], ⟨true, by simp -implicitDefEqProofs only [go_sem, seval], ⟨fun _ => ⟨t_kind.1 rfl, t_req.1 rfl, t_caps.1 rfl, t_token.1 rfl, t_code.1 rfl, t_n.1 rfl, t_name.1 rfl, t_conf.1 rfl, t_changes.1 rfl, t_id.1 rfl, t_vec.1 rfl⟩, fun _ => rfl⟩⟩, B1, B2, kz2⟩
  clear g2 g3 B1 B2 k0
  rintro f w0 ⟨g2, g3, ⟨q1, g5, p1⟩, B1, B2, k0⟩
  refine seq_cut rfl (fun f w' => f 2 = .pointer (some (At b1 0)) ∧ f 3 = .pointer (some (At b2 0)) ∧ f 5 = .bool q1 ∧ (∃ q, f 6 = .bool q ∧ (q = true ↔ x.k = y.k ∧ x.width = y.width ∧ x.filter.all = y.filter.all ∧ x.filter.any = y.filter.any ∧ x.filter.none = y.filter.none ∧ x.num = y.num ∧ x.page = y.page ∧ x.bytes = y.bytes)) ∧ Blk w' b1 42 #[.int .u8 x.kind, .int .u32 x.req, .int .u32 x.caps, .int .u64 x.token, .int .u8 x.code, .int .u32 x.n, .string x.name, .string x.conf.name, .int .u8 x.conf.dim, .int .u8 x.conf.metric, .bool x.conf.graph, .int .u8 x.conf.links, .int .u16 x.conf.width, .slice A_changes x.changes.length c_changes, .int .u32 x.id, .slice A_vec x.vec.length c_vec, .int .u16 x.k, .int .u16 x.width, .slice Aa x.filter.all.length ca, .slice Ab x.filter.any.length cb, .slice Ac x.filter.none.length cc, .int .u32 x.num, .int .u32 x.page, .slice A_bytes x.bytes.length c_bytes, .int .u64 x.version, .slice A_names x.names.length c_names, .slice A_items x.items.length c_items, .slice A_hits x.hits.length c_hits] ∧ Blk w' b2 42 #[.int .u8 y.kind, .int .u32 y.req, .int .u32 y.caps, .int .u64 y.token, .int .u8 y.code, .int .u32 y.n, .string y.name, .string y.conf.name, .int .u8 y.conf.dim, .int .u8 y.conf.metric, .bool y.conf.graph, .int .u8 y.conf.links, .int .u16 y.conf.width, .slice A_changes' y.changes.length c_changes', .int .u32 y.id, .slice A_vec' y.vec.length c_vec', .int .u16 y.k, .int .u16 y.width, .slice Aa' y.filter.all.length ca', .slice Ab' y.filter.any.length cb', .slice Ac' y.filter.none.length cc', .int .u32 y.num, .int .u32 y.page, .slice A_bytes' y.bytes.length c_bytes', .int .u64 y.version, .slice A_names' y.names.length c_names', .slice A_items' y.items.length c_items', .slice A_hits' y.hits.length c_hits'] ∧ Keep w w') ?r2 ?h2
  case h2 =>
    intro K hK
    obtain ⟨q_k, z_k, t_k⟩ : ∃ q, (x.k == y.k) = q ∧ (q = true ↔ x.k = y.k) := ⟨_, rfl, beq_iff_eq⟩
    cases q_k with
    | false =>
      simp -implicitDefEqProofs only [go_sem, seval, g2, g3, g5, z_k, B1.cell, B2.cell]
      exact hK _ _ ⟨by simp -implicitDefEqProofs only [go_sem, seval, g2], by simp -implicitDefEqProofs only [go_sem, seval, g3], by simp -implicitDefEqProofs only [go_sem, seval, g5], ⟨false, by simp -implicitDefEqProofs only [go_sem, seval], ⟨fun h => (by cases h), fun h => by obtain ⟨h0, h1, h2, h3, h4, h5, h6, h7⟩ := h; exact absurd h0 (fun h => by cases t_k.2 h)⟩⟩, B1, B2, k0⟩
    | true =>
    obtain ⟨q_width, z_width, t_width⟩ : ∃ q, (x.width == y.width) = q ∧ (q = true ↔ x.width = y.width) := ⟨_, rfl, beq_iff_eq⟩
    cases q_width with
    | false =>
      simp -implicitDefEqProofs only [go_sem, seval, g2, g3, g5, z_k, z_width, B1.cell, B2.cell]
      exact hK _ _ ⟨by simp -implicitDefEqProofs only [go_sem, seval, g2], by simp -implicitDefEqProofs only [go_sem, seval, g3], by simp -implicitDefEqProofs only [go_sem, seval, g5], ⟨false, by simp -implicitDefEqProofs only [go_sem, seval], ⟨fun h => (by cases h), fun h => by obtain ⟨h0, h1, h2, h3, h4, h5, h6, h7⟩ := h; exact absurd h1 (fun h => by cases t_width.2 h)⟩⟩, B1, B2, k0⟩
    | true =>
    simp -implicitDefEqProofs only [go_sem, seval, g2, g3, g5, z_k, z_width, B1.cell, B2.cell]
    refine (sameTexts_calls (ml _ _ l1 m1) (f1.keep k0) (f1'.keep k0)).mono ?_
    rintro v v1 ⟨⟨q_fall, rfl, t_fall⟩, kc1⟩
    have B1 := kc1.blk B1 (fun x => x)
    have B2 := kc1.blk B2 (fun x => x)
    have kz1 := k0.tr kc1
    cases q_fall with
    | false =>
      simp -implicitDefEqProofs only [go_sem, seval, g2, g3, g5]
      exact hK _ _ ⟨by simp -implicitDefEqProofs only [go_sem, seval, g2], by simp -implicitDefEqProofs only [go_sem, seval, g3], by simp -implicitDefEqProofs only [go_sem, seval, g5], ⟨false, by simp -implicitDefEqProofs only [go_sem, seval], ⟨fun h => (by cases h), fun h => by obtain ⟨h0, h1, h2, h3, h4, h5, h6, h7⟩ := h; exact absurd h2 (fun h => by cases t_fall.2 h)⟩⟩, B1, B2, kz1⟩
    | true =>
    simp -implicitDefEqProofs only [go_sem, seval, g2, g3, g5, B1.cell, B2.cell]
    refine (sameTexts_calls (ml _ _ l2 m2) (f2.keep kz1) (f2'.keep kz1)).mono ?_
    rintro v v2 ⟨⟨q_fany, rfl, t_fany⟩, kc2⟩
    have B1 := kc2.blk B1 (fun x => x)
    have B2 := kc2.blk B2 (fun x => x)
    have kz2 := kz1.tr kc2
    cases q_fany with
    | false =>
      simp -implicitDefEqProofs only [go_sem, seval, g2, g3, g5]
      exact hK _ _ ⟨by simp -implicitDefEqProofs only [go_sem, seval, g2], by simp -implicitDefEqProofs only [go_sem, seval, g3], by simp -implicitDefEqProofs only [go_sem, seval, g5], ⟨false, by simp -implicitDefEqProofs only [go_sem, seval], ⟨fun h => (by cases h), fun h => by obtain ⟨h0, h1, h2, h3, h4, h5, h6, h7⟩ := h; exact absurd h3 (fun h => by cases t_fany.2 h)⟩⟩, B1, B2, kz2⟩
    | true =>
    simp -implicitDefEqProofs only [go_sem, seval, g2, g3, g5, B1.cell, B2.cell]
    refine (sameTexts_calls (ml _ _ l3 m3) (f3.keep kz2) (f3'.keep kz2)).mono ?_
    rintro v v3 ⟨⟨q_fnone, rfl, t_fnone⟩, kc3⟩
    have B1 := kc3.blk B1 (fun x => x)
    have B2 := kc3.blk B2 (fun x => x)
    have kz3 := kz2.tr kc3
    cases q_fnone with
    | false =>
      simp -implicitDefEqProofs only [go_sem, seval, g2, g3, g5]
      exact hK _ _ ⟨by simp -implicitDefEqProofs only [go_sem, seval, g2], by simp -implicitDefEqProofs only [go_sem, seval, g3], by simp -implicitDefEqProofs only [go_sem, seval, g5], ⟨false, by simp -implicitDefEqProofs only [go_sem, seval], ⟨fun h => (by cases h), fun h => by obtain ⟨h0, h1, h2, h3, h4, h5, h6, h7⟩ := h; exact absurd h4 (fun h => by cases t_fnone.2 h)⟩⟩, B1, B2, kz3⟩
    | true =>
    obtain ⟨q_num, z_num, t_num⟩ : ∃ q, (x.num == y.num) = q ∧ (q = true ↔ x.num = y.num) := ⟨_, rfl, beq_iff_eq⟩
    cases q_num with
    | false =>
      simp -implicitDefEqProofs only [go_sem, seval, g2, g3, g5, z_num, B1.cell, B2.cell]
      exact hK _ _ ⟨by simp -implicitDefEqProofs only [go_sem, seval, g2], by simp -implicitDefEqProofs only [go_sem, seval, g3], by simp -implicitDefEqProofs only [go_sem, seval, g5], ⟨false, by simp -implicitDefEqProofs only [go_sem, seval], ⟨fun h => (by cases h), fun h => by obtain ⟨h0, h1, h2, h3, h4, h5, h6, h7⟩ := h; exact absurd h5 (fun h => by cases t_num.2 h)⟩⟩, B1, B2, kz3⟩
    | true =>
    obtain ⟨q_page, z_page, t_page⟩ : ∃ q, (x.page == y.page) = q ∧ (q = true ↔ x.page = y.page) := ⟨_, rfl, beq_iff_eq⟩
    cases q_page with
    | false =>
      simp -implicitDefEqProofs only [go_sem, seval, g2, g3, g5, z_num, z_page, B1.cell, B2.cell]
      exact hK _ _ ⟨by simp -implicitDefEqProofs only [go_sem, seval, g2], by simp -implicitDefEqProofs only [go_sem, seval, g3], by simp -implicitDefEqProofs only [go_sem, seval, g5], ⟨false, by simp -implicitDefEqProofs only [go_sem, seval], ⟨fun h => (by cases h), fun h => by obtain ⟨h0, h1, h2, h3, h4, h5, h6, h7⟩ := h; exact absurd h6 (fun h => by cases t_page.2 h)⟩⟩, B1, B2, kz3⟩
    | true =>
    simp -implicitDefEqProofs only [go_sem, seval, g2, g3, g5, z_num, z_page, B1.cell, B2.cell]
    refine cv_bytes bs8 (x_bytes.2.2.keep kz3).rd ?_
    simp -implicitDefEqProofs only [go_sem, seval, B1.cell, B2.cell, g2, g3]
    refine cv_bytes bs8 (y_bytes.2.2.keep kz3).rd ?_
    obtain ⟨q_bytes, z_bytes, t_bytes⟩ : ∃ q, ((strOfNums x.bytes).toList == (strOfNums y.bytes).toList) = q ∧ (q = true ↔ x.bytes = y.bytes) := ⟨_, rfl, beq_iff_eq.trans (str_eq x_bytes.2.2.bs y_bytes.2.2.bs)⟩
    cases q_bytes with
    | false =>
      simp -implicitDefEqProofs only [go_sem, seval, z_bytes, g2, g3, g5]
      exact hK _ _ ⟨by simp -implicitDefEqProofs only [go_sem, seval, g2], by simp -implicitDefEqProofs only [go_sem, seval, g3], by simp -implicitDefEqProofs only [go_sem, seval, g5], ⟨false, by simp -implicitDefEqProofs only [go_sem, seval], ⟨fun h => (by cases h), fun h => by obtain ⟨h0, h1, h2, h3, h4, h5, h6, h7⟩ := h; exact absurd h7 (fun h => by cases t_bytes.2 h)⟩⟩, B1, B2, kz3⟩
    | true =>
    simp -implicitDefEqProofs only [go_sem, seval, g2, g3, g5, z_bytes, B1.cell, B2.cell]
    exact hK _ _ ⟨by simp -implicitDefEqProofs only [go_sem, seval, g2], by simp -implicitDefEqProofs only [go_sem, seval, g3], by simp -implicitDefEqProofs only [go_sem, seval, g5], ⟨true, by simp -implicitDefEqProofs only [go_sem, seval], ⟨fun _ => ⟨t_k.1 rfl, t_width.1 rfl, t_fall.1 rfl, t_fany.1 rfl, t_fnone.1 rfl, t_num.1 rfl, t_page.1 rfl, t_bytes.1 rfl⟩, fun _ => rfl⟩⟩, B1, B2, kz3⟩
  clear g2 g3 g5 B1 B2 k0
  rintro f w0 ⟨g2, g3, g5, ⟨q2, g6, p2⟩, B1, B2, k0⟩
  have whole : x = y ↔ (x.kind = y.kind ∧ x.req = y.req ∧ x.caps = y.caps ∧ x.token = y.token ∧ x.code = y.code ∧ x.n = y.n ∧ x.name = y.name ∧ x.conf = y.conf ∧ x.changes = y.changes ∧ x.id = y.id ∧ x.vec = y.vec) ∧ (x.k = y.k ∧ x.width = y.width ∧ x.filter.all = y.filter.all ∧ x.filter.any = y.filter.any ∧ x.filter.none = y.filter.none ∧ x.num = y.num ∧ x.page = y.page ∧ x.bytes = y.bytes) ∧ x.version = y.version ∧ x.names = y.names ∧ x.items = y.items ∧ x.hits = y.hits :=
    ⟨fun h => by subst h; simp, fun ⟨⟨a0, a1, a2, a3, a4, a5, a6, a7, a8, a9, a10⟩, ⟨c0, c1, c2, c3, c4, c5, c6, c7⟩, d0, d1, d2, d3⟩ =>
      Msg.ext' a0 a1 a2 a3 a4 a5 a6 a7 a8 a9 a10 c0 c1 (MFilter.ext' c2 c3 c4) c5 c6 c7 d0 d1 d2 d3⟩
  cases q1 with
  | false =>
    simp -implicitDefEqProofs only [go_sem, seval, g5, g6]
    exact ⟨says_false fun e => (by cases p1.2 (whole.1 e).1), k0⟩
  | true =>
  cases q2 with
  | false =>
    simp -implicitDefEqProofs only [go_sem, seval, g5, g6]
    exact ⟨says_false fun e => (by cases p2.2 (whole.1 e).2.1), k0⟩
  | true =>
  obtain ⟨q_version, z_version, t_version⟩ : ∃ q, (x.version == y.version) = q ∧ (q = true ↔ x.version = y.version) := ⟨_, rfl, beq_iff_eq⟩
  cases q_version with
  | false =>
    simp -implicitDefEqProofs only [go_sem, seval, g2, g3, g5, g6, z_version, B1.cell, B2.cell]
    exact ⟨says_false fun e => (by obtain ⟨_, _, h0, h1, h2, h3⟩ := whole.1 e; exact absurd h0 (fun h => by cases t_version.2 h)), k0⟩
  | true =>
  simp -implicitDefEqProofs only [go_sem, seval, g2, g3, g5, g6, z_version, B1.cell, B2.cell]
  refine (sameTexts_calls (ml _ _ x_names.1 x_names.2.1) (x_names.2.2.keep k0) (y_names.2.2.keep k0)).mono ?_
  rintro v v1 ⟨⟨q_names, rfl, t_names⟩, kc1⟩
  have B1 := kc1.blk B1 (fun x => x)
  have B2 := kc1.blk B2 (fun x => x)
  have kz1 := k0.tr kc1
  cases q_names with
  | false =>
    simp -implicitDefEqProofs only [go_sem, seval, g2, g3, g5, g6]
    exact ⟨says_false fun e => (by obtain ⟨_, _, h0, h1, h2, h3⟩ := whole.1 e; exact absurd h1 (fun h => by cases t_names.2 h)), kz1⟩
  | true =>
  simp -implicitDefEqProofs only [go_sem, seval, g2, g3, g5, g6, B1.cell, B2.cell]
  refine (sameItems_calls (ml _ _ x_items.1 x_items.2.1) (x_items.2.2.keep kz1) (y_items.2.2.keep kz1)).mono ?_
  rintro v v2 ⟨⟨q_items, rfl, t_items⟩, kc2⟩
  have B1 := kc2.blk B1 (fun x => x)
  have B2 := kc2.blk B2 (fun x => x)
  have kz2 := kz1.tr kc2
  cases q_items with
  | false =>
    simp -implicitDefEqProofs only [go_sem, seval, g2, g3, g5, g6]
    exact ⟨says_false fun e => (by obtain ⟨_, _, h0, h1, h2, h3⟩ := whole.1 e; exact absurd h2 (fun h => by cases t_items.2 h)), kz2⟩
  | true =>
  simp -implicitDefEqProofs only [go_sem, seval, g2, g3, g5, g6, B1.cell, B2.cell]
  refine (sameHits_calls (ml _ _ x_hits.1 x_hits.2.1) (x_hits.2.2.keep kz2) (y_hits.2.2.keep kz2)).mono ?_
  rintro v v3 ⟨⟨q_hits, rfl, t_hits⟩, kc3⟩
  have B1 := kc3.blk B1 (fun x => x)
  have B2 := kc3.blk B2 (fun x => x)
  have kz3 := kz2.tr kc3
  cases q_hits with
  | false =>
    simp -implicitDefEqProofs only [go_sem, seval, g2, g3, g5, g6]
    exact ⟨says_false fun e => (by obtain ⟨_, _, h0, h1, h2, h3⟩ := whole.1 e; exact absurd h3 (fun h => by cases t_hits.2 h)), kz3⟩
  | true =>
  simp -implicitDefEqProofs only [go_sem, seval, g2, g3, g5, g6, B1.cell, B2.cell]
  exact ⟨says_true (whole.2 ⟨p1.1 rfl, p2.1 rfl, t_version.1 rfl, t_names.1 rfl, t_items.1 rfl, t_hits.1 rfl⟩), kz3⟩
end Go.Proofs.Ytnlibeaainbipaa.F
