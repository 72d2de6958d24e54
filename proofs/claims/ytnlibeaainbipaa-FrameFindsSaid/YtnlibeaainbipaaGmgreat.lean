/- Is a message greater than statements look at? It answers. Conditions: it is data of its kind. -/
import Derived.Test.YtnlibeaainbipaaGmsame
namespace Go.Proofs.Ytnlibeaainbipaa.F
open Go.RowKit Go.Proofs.Ytnlibeaainbipaa.M Go.Proofs.Ytnlibeaainbipaa.V
set_option linter.unusedSimpArgs false
set_option linter.unusedVariables false
set_option maxRecDepth 20000
theorem greatMsg_calls {U : Nat → Prop} {w : World} {x : Msg} {cs : List Value} (hx : kMsg.rep U w x cs) : callK Try.prog 6 #[.agg cs.toArray] w fun v w' => (∃ q, v = .bool q) ∧ Keep w w' := by
  refine callK_of Try.func6 c6 r6 (by exact Nat.le_of_ble_eq_true rfl) ?_
  obtain ⟨A_changes, c_changes, A_vec, c_vec, Aa, ca, Ab, cb, Ac, cc, A_bytes, c_bytes, A_names, c_names, A_items, c_items, A_hits, c_hits, rfl, x_kind, x_req, x_caps, x_token, x_code, x_n, x_name, x_conf, x_changes, x_id, x_vec, x_k, x_width, x_filter, x_num, x_page, x_bytes, x_version, x_names, x_items, x_hits⟩ := kMsg_cases hx
  obtain ⟨_, _, _, _, _, _, e1, m1, m2, m3, l1, l2, l3, f1, f2, f3⟩ := kFilter_cases x_filter
  simp only [List.cons.injEq, Value.slice.injEq, true_and, and_true] at e1
  obtain ⟨⟨rfl, rfl⟩, ⟨rfl, rfl⟩, rfl, rfl⟩ := e1
  have ml : ∀ n c : Nat, n ≤ c → c ≤ maxLen → n ≤ 9223372036854775807 := fun n c h1 h2 => by simp only [maxLen] at h2; omega
  have kA : Keep w (w.alloc (.cells #[.int .u8 x.kind, .int .u32 x.req, .int .u32 x.caps, .int .u64 x.token, .int .u8 x.code, .int .u32 x.n, .string x.name, .string x.conf.name, .int .u8 x.conf.dim, .int .u8 x.conf.metric, .bool x.conf.graph, .int .u8 x.conf.links, .int .u16 x.conf.width, .slice A_changes x.changes.length c_changes, .int .u32 x.id, .slice A_vec x.vec.length c_vec, .int .u16 x.k, .int .u16 x.width, .slice Aa x.filter.all.length ca, .slice Ab x.filter.any.length cb, .slice Ac x.filter.none.length cc, .int .u32 x.num, .int .u32 x.page, .slice A_bytes x.bytes.length c_bytes, .int .u64 x.version, .slice A_names x.names.length c_names, .slice A_items x.items.length c_items, .slice A_hits x.hits.length c_hits] 42)) := Fx.alloc _ w _
  have B := Blk.new w 42 #[.int .u8 x.kind, .int .u32 x.req, .int .u32 x.caps, .int .u64 x.token, .int .u8 x.code, .int .u32 x.n, .string x.name, .string x.conf.name, .int .u8 x.conf.dim, .int .u8 x.conf.metric, .bool x.conf.graph, .int .u8 x.conf.links, .int .u16 x.conf.width, .slice A_changes x.changes.length c_changes, .int .u32 x.id, .slice A_vec x.vec.length c_vec, .int .u16 x.k, .int .u16 x.width, .slice Aa x.filter.all.length ca, .slice Ab x.filter.any.length cb, .slice Ac x.filter.none.length cc, .int .u32 x.num, .int .u32 x.page, .slice A_bytes x.bytes.length c_bytes, .int .u64 x.version, .slice A_names x.names.length c_names, .slice A_items x.items.length c_items, .slice A_hits x.hits.length c_hits]
  refine seq_cut rfl (fun f w' => f 1 = .pointer (some (At w.heap.size 0)) ∧ w' = w.alloc (.cells #[.int .u8 x.kind, .int .u32 x.req, .int .u32 x.caps, .int .u64 x.token, .int .u8 x.code, .int .u32 x.n, .string x.name, .string x.conf.name, .int .u8 x.conf.dim, .int .u8 x.conf.metric, .bool x.conf.graph, .int .u8 x.conf.links, .int .u16 x.conf.width, .slice A_changes x.changes.length c_changes, .int .u32 x.id, .slice A_vec x.vec.length c_vec, .int .u16 x.k, .int .u16 x.width, .slice Aa x.filter.all.length ca, .slice Ab x.filter.any.length cb, .slice Ac x.filter.none.length cc, .int .u32 x.num, .int .u32 x.page, .slice A_bytes x.bytes.length c_bytes, .int .u64 x.version, .slice A_names x.names.length c_names, .slice A_items x.items.length c_items, .slice A_hits x.hits.length c_hits] 42)) ?r0 ?h0
  case h0 =>
    intro K hK
    simp -implicitDefEqProofs only [go_sem, seval]
    exact hK _ _ ⟨by simp -implicitDefEqProofs only [go_sem, seval], rfl⟩
  rintro f w1 ⟨g1, rfl⟩
  generalize w.alloc (.cells #[.int .u8 x.kind, .int .u32 x.req, .int .u32 x.caps, .int .u64 x.token, .int .u8 x.code, .int .u32 x.n, .string x.name, .string x.conf.name, .int .u8 x.conf.dim, .int .u8 x.conf.metric, .bool x.conf.graph, .int .u8 x.conf.links, .int .u16 x.conf.width, .slice A_changes x.changes.length c_changes, .int .u32 x.id, .slice A_vec x.vec.length c_vec, .int .u16 x.k, .int .u16 x.width, .slice Aa x.filter.all.length ca, .slice Ab x.filter.any.length cb, .slice Ac x.filter.none.length cc, .int .u32 x.num, .int .u32 x.page, .slice A_bytes x.bytes.length c_bytes, .int .u64 x.version, .slice A_names x.names.length c_names, .slice A_items x.items.length c_items, .slice A_hits x.hits.length c_hits] 42) = w1 at *
  have lc := ml _ _ x_changes.1 x_changes.2.1
  have x_changes := x_changes.2.2.keep kA
  have li := ml _ _ x_items.1 x_items.2.1
  have ln := ml _ _ x_names.1 x_names.2.1
  have x_items := x_items.2.2.keep kA
  have x_names := x_names.2.2.keep kA
  have f1 := f1.keep kA
  have f2 := f2.keep kA
  have f3 := f3.keep kA
  generalize w.heap.size = bx at *
  refine seq_cut rfl (fun f w' => f 1 = .pointer (some (At bx 0)) ∧ (∃ n : Int, f 3 = .int .i64 n) ∧ w' = w1) ?r1 ?h1
  case h1 =>
    intro K hK
    simp -implicitDefEqProofs only [go_sem, seval, g1, B.cell]
    exact hK _ _ ⟨by simp -implicitDefEqProofs only [go_sem, seval, g1], ⟨_, by simp -implicitDefEqProofs only [go_sem, seval] <;> rfl⟩, rfl⟩
  clear g1
  rintro f w2 ⟨g1, ⟨n, g3⟩, rfl⟩
  refine seq_cut rfl (fun f w' => f 1 = .pointer (some (At bx 0)) ∧ f 3 = .int .i64 n ∧ w' = w2) ?r2 ?h2
  case h2 =>
    intro K hK
    by_cases h1 : 50000 < n
    · simp -implicitDefEqProofs only [go_sem, seval, g1, g3, h1]
      exact ⟨⟨_, rfl⟩, kA⟩
    · by_cases h2 : (400 : Int) < (x.changes.length : Int)
      · simp -implicitDefEqProofs only [go_sem, seval, g1, g3, h1, h2, B.cell]
        exact ⟨⟨_, rfl⟩, kA⟩
      · by_cases h3 : (400 : Int) < (x.items.length : Int)
        · simp -implicitDefEqProofs only [go_sem, seval, g1, g3, h1, h2, h3, B.cell]
          exact ⟨⟨_, rfl⟩, kA⟩
        · simp -implicitDefEqProofs only [go_sem, seval, g1, g3, h1, h2, h3, B.cell]
          refine (great_calls ln x_names).mono ?_
          rintro v w3 ⟨⟨q, rfl⟩, rfl⟩
          cases q with
          | true =>
            simp -implicitDefEqProofs only [go_sem, seval]
            exact ⟨⟨_, rfl⟩, kA⟩
          | false =>
          simp -implicitDefEqProofs only [go_sem, seval, g1, B.cell]
          refine (great_calls (ml _ _ l1 m1) f1).mono ?_
          rintro v w3 ⟨⟨q, rfl⟩, rfl⟩
          cases q with
          | true =>
            simp -implicitDefEqProofs only [go_sem, seval]
            exact ⟨⟨_, rfl⟩, kA⟩
          | false =>
          simp -implicitDefEqProofs only [go_sem, seval, g1, B.cell]
          refine (great_calls (ml _ _ l2 m2) f2).mono ?_
          rintro v w3 ⟨⟨q, rfl⟩, rfl⟩
          cases q with
          | true =>
            simp -implicitDefEqProofs only [go_sem, seval]
            exact ⟨⟨_, rfl⟩, kA⟩
          | false =>
          simp -implicitDefEqProofs only [go_sem, seval, g1, B.cell]
          refine (great_calls (ml _ _ l3 m3) f3).mono ?_
          rintro v w3 ⟨⟨q, rfl⟩, rfl⟩
          cases q with
          | true =>
            simp -implicitDefEqProofs only [go_sem, seval]
            exact ⟨⟨_, rfl⟩, kA⟩
          | false =>
            simp -implicitDefEqProofs only [go_sem, seval, g1]
            exact hK _ _ ⟨by simp -implicitDefEqProofs only [go_sem, seval, g1], by simp -implicitDefEqProofs only [go_sem, seval, g3], rfl⟩
  clear g1 g3
  rintro f w3 ⟨g1, g3, rfl⟩
  simp -implicitDefEqProofs only [go_sem, seval]
  refine loop_intro (fun q f w' => ∃ (i : Nat) (n : Int), q = x.items.length - i ∧ i ≤ x.items.length ∧ f 1 = .pointer (some (At bx 0)) ∧ f 3 = .int .i64 n ∧ f 4 = .int .i64 i ∧ w' = w3) x.items.length
    ⟨0, n, rfl, by omega, by simp -implicitDefEqProofs only [go_sem, seval, g1], by simp -implicitDefEqProofs only [go_sem, seval, g3], by simp -implicitDefEqProofs only [go_sem, seval] <;> rfl, rfl⟩ ?_
  clear g1 g3
  rintro q f w4 ⟨i, n, rfl, hi, g1, g3, g4, rfl⟩
  have fin : ∀ (K : Prop), ((50000 : Int) ≤ n → K) → (¬ (50000 : Int) ≤ n → K) → K := by
    intro K h1 h2
    by_cases z1 : (50000 : Int) ≤ n
    · exact h1 z1
    · exact h2 z1
  by_cases hlt : i < x.items.length
  · have i0 : (0 : Int) ≤ (i : Int) := by omega
    have i1 : (i : Int) < (x.items.length : Int) := by omega
    by_cases hn : n < 50000
    · have en : IntKind.i64.wrap ((i : Int) + 1) = ((i + 1 : Nat) : Int) := i64_nat (by omega) (by omega)
      obtain ⟨y, ey⟩ : ∃ y, x.items[i]? = some y := ⟨_, List.getElem?_eq_getElem hlt⟩
      obtain ⟨ad, rfl, _, vs, hry, hcy⟩ := x_items i y ey
      obtain ⟨A1, c1, B1, d1, rfl, hi1, hl1, hc1, he1, hl2, hc2, he2⟩ := kItem_cases hry
      have e4 : kItem.sz = 3 := rfl
      rw [e4] at hcy
      have y2 := hcy 1 (.slice A1 y.vec.length c1) rfl
      have y3 := hcy 2 (.slice B1 y.tags.length d1) rfl
      simp only [go_sem] at y2 y3
      simp -implicitDefEqProofs only [go_sem, seval, g1, g3, g4, i0, i1, hn, B.cell, y2, y3, Nat.add_assoc]
      refine (great_calls (by simp only [maxLen] at hc2; omega) he2).mono ?_
      rintro v w5 ⟨⟨q, rfl⟩, rfl⟩
      cases q with
      | true =>
        simp -implicitDefEqProofs only [go_sem, seval]
        exact ⟨⟨_, rfl⟩, kA⟩
      | false =>
        simp -implicitDefEqProofs only [go_sem, seval, g1, g4, en]
        exact ⟨x.items.length - (i + 1), by omega, i + 1, _, rfl, by omega, by simp -implicitDefEqProofs only [go_sem, seval, g1], by simp -implicitDefEqProofs only [go_sem, seval] <;> rfl, by simp -implicitDefEqProofs only [go_sem, seval], rfl⟩
    · have z1 : (50000 : Int) ≤ n := by omega
      simp -implicitDefEqProofs only [go_sem, seval, g1, g3, g4, i1, hn, z1, B.cell]
      exact ⟨⟨_, rfl⟩, kA⟩
  · have i1 : ¬ (i : Int) < (x.items.length : Int) := by omega
    refine fin _ (fun z1 => ?_) (fun z1 => ?_)
    · simp -implicitDefEqProofs only [go_sem, seval, g1, g3, g4, i1, z1, B.cell]
      exact ⟨⟨_, rfl⟩, kA⟩
    · simp -implicitDefEqProofs only [go_sem, seval, g1, g3, g4, i1, z1, B.cell]
      refine (greatChanges_calls lc x_changes).mono ?_
      rintro v w5 ⟨⟨q, rfl⟩, rfl⟩
      simp -implicitDefEqProofs only [go_sem, seval]
      exact ⟨⟨_, rfl⟩, kA⟩
end Go.Proofs.Ytnlibeaainbipaa.F
