/- The law that a reader that has told an error tells it for ever: the walk. Conditions: those of its row. -/
import Derived.Test.YtnlibeaainbipaaGreatFall
import Derived.Test.YtnlibeaainbipaaGreatFalive
import Derived.Test.YtnlibeaainbipaaGreatGmgreat
namespace Go.Proofs.YtnlibeaainbipaaGreat.F
open Go.RowKit Go.Proofs.YtnlibeaainbipaaGreat.M Go.Proofs.YtnlibeaainbipaaGreat.V
set_option linter.unusedSimpArgs false
set_option linter.unusedVariables false
set_option maxRecDepth 20000
theorem opens_msgs : Opens Tryz.prog (Kind.list kMsg (Nat.succ_pos 27)) 56 := opens_list (Nat.succ_pos 27) Tryz.underlying56 (by kernel_rfl) opens_msg
theorem kind_range {U : Nat → Prop} {w : World} {x : Msg} {cs : List Value} (h : kMsg.rep U w x cs) : 0 ≤ x.kind ∧ x.kind ≤ 255 := wf_u8' (lnKind.get h).2
theorem next_fail {b : List Int} (h : (nextF b).2.1 ≠ 0) (h' : (nextF b).2.1 ≠ 40) : nextF b = failF (nextF b).2.1 := by
  have key : ∀ r, nextF b = r → r.2.1 ≠ 0 → r.2.1 ≠ 40 → r = failF r.2.1 := by
    intro r hr
    unfold nextF at hr
    (repeat' split at hr) <;> subst hr <;> intro h h' <;> first | rfl | exact absurd rfl h' | exact absurd rfl h
  exact key _ rfl h h'
theorem next_zero {b : List Int} (h : (nextF b).2.1 = 0) : (nextF b).2.2.2 = 0 ∧ (nextF b).2.2.1.length < b.length := by
  have key : ∀ r, nextF b = r → r.2.1 = 0 → r.2.2.2 = 0 ∧ r.2.2.1.length < b.length := by
    intro r hr
    unfold nextF at hr
    (repeat' split at hr) <;> subst hr <;> intro h <;> first
      | exact ⟨rfl, by simp only [List.length_drop]; omega⟩
      | exact absurd h (show (40 : Int) ≠ 0 by decide)
      | exact absurd h (show (41 : Int) ≠ 0 by decide)
      | exact absurd h (show (72 : Int) ≠ 0 by decide)
      | exact absurd h (show (73 : Int) ≠ 0 by decide)
      | (rename_i hx; exact absurd h hx)
  exact key _ rfl h
theorem encV_slice {w w' : World} {x : Msg} {v : Value} (h : EncV w w' x v) (hk : 0 ≤ x.kind ∧ x.kind ≤ 255) (hb : PutOk x → Bs (putMsg x).2.b) : ∃ A c d e, v = .tuple #[.slice A d.length c, .int .i64 e] ∧ RdI w' .u8 A d ∧ Bs d ∧ d.length ≤ 10000 := by
  have nilrd : RdI w' .u8 none ([] : List Int) := Elems.rd (Elems.nil (Kind.int .u8) (fun _ => False) w' none)
  rcases h with ⟨_, rfl⟩ | ⟨_, _, rfl⟩ | ⟨hok, hl, v1, rfl, ho⟩
  · exact ⟨none, 0, [], 62, rfl, nilrd, fun x hx => by simp at hx, by decide⟩
  · exact ⟨none, 0, [], 72, rfl, nilrd, fun x hx => by simp at hx, by decide⟩
  · obtain ⟨A, c, rfl, hc, hr⟩ := ho.slice
    have hvl : (vput (putMsg x).2.b.length).length ≤ 10 := vput_u64 (n := (putMsg x).2.b.length) (by omega)
    exact ⟨A, c, _, 0, rfl, hr, (headF_bs hk.1 hk.2 (hb hok)).append (sum4_bs _), by simp [frameF, headF, sum4]; omega⟩
set_option maxHeartbeats 1600000 in
theorem dead_walk {w : World} {A B : Option Addr} {b : List Int} {l : List Msg} {c d : Nat} (hl : b.length ≤ c) (hc : c ≤ maxLen) (he : Elems (Kind.int .u8) (fun k => k < w.heap.size) w A b)
    (hl2 : l.length ≤ d) (hc2 : d ≤ maxLen) (he2 : Elems kMsg (fun k => k < w.heap.size) w B l) :
    callK Tryz.prog 6 #[.slice A b.length c, .slice B l.length d] w fun v w' => v = .bool true ∧ Keep w w' := by
  refine callK_of Tryz.func6 c6 r6 (by exact Nat.le_of_ble_eq_true rfl) ?_
  rw [m6]
  simp -implicitDefEqProofs only [go_sem, seval]
  refine (falive_calls w).mono ?_
  rintro v w1 ⟨rfl, k1⟩
  have s1 := k1.size
  by_cases hbig : (5000 : Int) < (b.length : Int)
  · simp -implicitDefEqProofs only [go_sem, seval, hbig]
    exact ⟨trivial, k1⟩
  have hbs := he.bs
  have hrd := he.rd
  simp -implicitDefEqProofs only [go_sem, seval, hbig]
  refine (rnew_calls w1).mono ?_
  rintro v w2 ⟨rfl, hR2, k2, s2⟩
  simp -implicitDefEqProofs only [go_sem, seval]
  have kk2 := k1.tr k2
  obtain ⟨rb, hrb⟩ : ∃ rb, rb = w1.heap.size + 1 := ⟨_, rfl⟩
  obtain ⟨g, hg⟩ : ∃ g, g = w1.heap.size := ⟨_, rfl⟩
  rw [← hrb, ← hg] at hR2
  rw [← hrb]
  obtain ⟨S, hS⟩ : ∃ S, S = w2.heap.size := ⟨_, rfl⟩
  have hob : ∀ {wz : World} {bz : List Int} {y : Int}, Rdr wz rb g S bz y → ∀ k, OwnB wz rb k → S ≤ k := fun hz k e => (ownB_of hz (Fx.refl (fun _ => False) _) (fun h => h) e).1
  refine (feed_calls (hR2 S) (by omega) (hrd.fx kk2 (fun _ _ h => h)) hbs (by simp; omega)).mono ?_
  rintro v w3 ⟨rfl, hR3, f3⟩
  rw [if_pos rfl, List.nil_append] at hR3
  have K3 : Keep w w3 := kk2.new f3 (fun k e hk => by rcases e with e | e <;> first | omega | (have := hob (hR2 S) k e; omega))
  have s3 := f3.size
  simp -implicitDefEqProofs only [go_sem, seval]
  refine (all_calls (hrd.fx K3 (fun _ _ h => h)) hl hc hbs (by omega)).mono ?_
  rintro v w4 ⟨⟨l', why, n, rfl, hE⟩, k4⟩
  have K4 := K3.tr k4
  have s4 := k4.size
  have hR4 := hR3.fx k4 (fun h => h) (fun h => h) (fun _ _ _ h => h)
  simp -implicitDefEqProofs only [go_sem, seval]
  refine loop_intro (fun q f w' => ∃ e : Int, f 1 = .slice B l.length d ∧ f 5 = .pointer (some (At rb 0)) ∧ f 7 = .int .i64 why ∧ f 9 = .int .i64 e ∧ Keep w w' ∧ S ≤ w'.heap.size ∧
      ((e = 0 ∧ ∃ b', q = b'.length + 1 ∧ Rdr w' rb g S b' 0 ∧ b'.length ≤ 5000 ∧ ∀ e, Ends b' e → Ends b e) ∨ (e ≠ 0 ∧ q = 0 ∧ Ends b e ∧ (e ≠ 40 → Rdr w' rb g S [] e)))) (b.length + 1)
    ⟨0, by simp -implicitDefEqProofs only [go_sem, seval], by simp -implicitDefEqProofs only [go_sem, seval], by simp -implicitDefEqProofs only [go_sem, seval], by simp -implicitDefEqProofs only [go_sem, seval], K4, by omega, .inl ⟨rfl, b, rfl, hR4, by omega, fun _ h => h⟩⟩ ?_
  rintro q f w5 ⟨e, g1, g5, g7, g9, K5, s5, hcase⟩
  rcases hcase with ⟨rfl, b', rfl, hR5, hb5, hE5⟩ | ⟨hne, rfl, hE5, hR5⟩
  · have z : ((0 : Int) == 0) = true := rfl
    simp -implicitDefEqProofs only [go_sem, seval, g1, g5, g7, g9, z]
    refine (next_calls hR5 s5 (by omega)).mono ?_
    have e5 : stepF b' 0 = nextF b' := by unfold stepF; rw [if_pos rfl]
    rw [e5]
    rintro v w6 ⟨cs6, rfl, _, hR6, f6⟩
    have K6 : Keep w w6 := K5.new f6 (fun k e hk => by rcases e with e | e <;> omega)
    have s6 := f6.size
    simp -implicitDefEqProofs only [go_sem, seval, g1, g5, g7, g9]
    by_cases h0 : (nextF b').2.1 = 0
    · obtain ⟨y0, y1⟩ := next_zero h0
      refine ⟨(nextF b').2.2.1.length + 1, by omega, (nextF b').2.1, by simp -implicitDefEqProofs only [go_sem, seval, g1], by simp -implicitDefEqProofs only [go_sem, seval, g5], by simp -implicitDefEqProofs only [go_sem, seval, g7], by simp -implicitDefEqProofs only [go_sem, seval], K6, by omega, .inl ⟨h0, _, rfl, ?_, by omega, fun e he => hE5 e (Ends.go h0 he)⟩⟩
      rw [y0] at hR6
      exact hR6
    · refine ⟨0, by omega, (nextF b').2.1, by simp -implicitDefEqProofs only [go_sem, seval, g1], by simp -implicitDefEqProofs only [go_sem, seval, g5], by simp -implicitDefEqProofs only [go_sem, seval, g7], by simp -implicitDefEqProofs only [go_sem, seval], K6, by omega, .inr ⟨h0, rfl, hE5 _ (Ends.stop h0), fun h40 => ?_⟩⟩
      rw [next_fail h0 h40] at hR6
      exact hR6
  have hew := hE5.same hE
  subst hew
  have z : (e == 0) = false := by rw [beq_eq_false_iff_ne]; exact hne
  have zE : (e != e) = false := by rw [bne_eq_false_iff_eq]
  by_cases h40 : e = 40
  · have z40 : (e == 40) = true := by rw [h40]; rfl
    simp -implicitDefEqProofs only [go_sem, seval, g1, g5, g7, g9, z, zE, z40]
    exact ⟨trivial, K5⟩
  have hR5 := hR5 h40
  have z40 : (e == 40) = false := by rw [beq_eq_false_iff_ne]; exact h40
  simp -implicitDefEqProofs only [go_sem, seval, g1, g5, g7, g9, z, zE, z40]
  refine loop_intro (fun q f w' => ∃ i : Nat, q = l.length - i ∧ i ≤ l.length ∧ f 1 = .slice B l.length d ∧ f 5 = .pointer (some (At rb 0)) ∧ f 9 = .int .i64 e ∧ f 10 = .int .i64 i ∧ Keep w w' ∧ S ≤ w'.heap.size ∧ Rdr w' rb g S [] e) l.length
    ⟨0, rfl, Nat.zero_le _, by simp -implicitDefEqProofs only [go_sem, seval, g1], by simp -implicitDefEqProofs only [go_sem, seval, g5], by simp -implicitDefEqProofs only [go_sem, seval, g9], by simp -implicitDefEqProofs only [go_sem, seval] <;> rfl, K5, s5, hR5⟩ ?_
  rintro q f' w6 ⟨i, rfl, hi, g1, g5, g9, g10, K6, s6, hR6⟩
  simp only [maxLen] at hc2
  by_cases h1 : i < l.length
  case neg =>
    have i1 : ¬ (i : Int) < (l.length : Int) := by omega
    simp -implicitDefEqProofs only [go_sem, seval, g1, g5, g9, g10, i1]
    exact ⟨trivial, K6⟩
  have i1 : (i : Int) < (l.length : Int) := by omega
  by_cases h5 : i < 5
  case neg =>
    have i5 : ¬ (i : Int) < 5 := by omega
    simp -implicitDefEqProofs only [go_sem, seval, g1, g5, g9, g10, i1, i5]
    exact ⟨trivial, K6⟩
  have i5 : (i : Int) < 5 := by omega
  have i0 : (0 : Int) ≤ (i : Int) := by omega
  obtain ⟨ad, rfl, hU, vs, hrep, hcl⟩ := he2 i _ (List.getElem?_eq_getElem h1)
  have hcl' : CellsAt w (ad.add (i * 28)) vs := hcl
  have lden : ∀ {wz : World}, Keep w wz → ldV Tryz.prog wz 37 (.pointer (some (ad.add (i * 28)))) = some (.agg vs.toArray) := fun kz => ldV_agg sh37 (kMsg.len hrep) (hcl'.ext fun hlt => kz.block _ hlt (fun h => h))
  have repn : ∀ {wz : World}, Keep w wz → kMsg.rep (fun k => k < wz.heap.size) wz l[i] vs := fun kz => kMsg.mono (kMsg.keep hrep kz) fun k hk _ => hk
  have ld6 := lden K6
  simp -implicitDefEqProofs only [go_sem, seval, g1, g5, g9, g10, i1, i5, i0, ld6]
  refine (greatMsg_calls (repn K6)).mono ?_
  rintro v w7 ⟨⟨q, rfl⟩, k7⟩
  have K7 := K6.tr k7
  have s7 := k7.size
  cases q with
  | true =>
    simp -implicitDefEqProofs only [go_sem, seval]
    exact ⟨trivial, K7⟩
  | false =>
  have ld7 := lden K7
  simp -implicitDefEqProofs only [go_sem, seval, g1, g5, g9, g10, i1, i0, ld7]
  have hRm := rmsg_of (repn K7)
  have hbm : PutOk l[i] → Bs (putMsg l[i]).2.b := fun h => put_bs hRm h
  have hkr := kind_range (repn K7)
  refine (encode_calls (repn K7) hbm).mono ?_
  rintro v w8 ⟨hv, k8⟩
  obtain ⟨A8, c8, d8, e8, rfl, hr8, hb8, hl8⟩ := encV_slice hv hkr hbm
  have K8 := K7.tr k8
  have s8 := k8.size
  have hR8 := (hR6.fx k7 (fun h => h) (fun h => h) (fun _ _ _ h => h)).fx k8 (fun h => h) (fun h => h) (fun _ _ _ h => h)
  simp -implicitDefEqProofs only [go_sem, seval, g1, g5, g9, g10]
  refine (feed_calls hR8 (by omega) hr8 hb8 (by simp; omega)).mono ?_
  rintro v w9 ⟨rfl, hR9, f9⟩
  rw [if_neg hne] at hR9
  have K9 : Keep w w9 := K8.new f9 (fun k e hk => by rcases e with e | e <;> first | omega | (have := hob hR8 k e; omega))
  have s9 := f9.size
  simp -implicitDefEqProofs only [go_sem, seval, g1, g5, g9, g10]
  refine (next_calls hR9 (by omega) (by decide)).mono ?_
  have ea : stepF [] e = (zMsg 0, e, [], e) := by unfold stepF; rw [if_neg hne]
  rw [ea]
  rintro v wa ⟨csa, rfl, hma, hRa, fa⟩
  have Ka : Keep w wa := K9.new fa (fun k e hk => by rcases e with e | e <;> omega)
  have sa := fa.size
  obtain ⟨wb, Sb, hMb, kb, sb⟩ := store_msg hma
  have Kb := Ka.tr kb
  have hRb := hRa.fx kb (fun h => h) (fun h => h) (fun _ _ _ h => h)
  obtain ⟨csb, ldb, hrb'⟩ := msg_load hMb
  simp -implicitDefEqProofs only [go_sem, seval, g1, g5, g9, g10, Sb, zE, ldb]
  refine (same_calls (y := zMsg 0) (U' := fun _ => False) hrb' (zMsg_rep (k := 0) (by decide) (by decide))).mono ?_
  rintro v wc ⟨⟨q, rfl, hq⟩, kc⟩
  obtain rfl : q = true := hq.2 rfl
  have Kc := Kb.tr kc
  have sc := kc.size
  have hRc := hRb.fx kc (fun h => h) (fun h => h) (fun _ _ _ h => h)
  simp -implicitDefEqProofs only [go_sem, seval, g1, g5, g9, g10]
  refine (waits_calls hRc).mono ?_
  rintro v _ ⟨rfl, rfl⟩
  have zl : ((([] : List Int).length : Int) != 0) = false := rfl
  have en : IntKind.i64.wrap ((i : Int) + 1) = ((i + 1 : Nat) : Int) := i64_nat (by omega) (by omega)
  simp -implicitDefEqProofs only [go_sem, seval, g1, g5, g9, g10, zl, en]
  exact ⟨l.length - (i + 1), by omega, i + 1, rfl, by omega, by simp -implicitDefEqProofs only [go_sem, seval, g1], by simp -implicitDefEqProofs only [go_sem, seval, g5], by simp -implicitDefEqProofs only [go_sem, seval, g9], by simp -implicitDefEqProofs only [go_sem, seval], Kc, by omega, hRc⟩
end Go.Proofs.YtnlibeaainbipaaGreat.F
