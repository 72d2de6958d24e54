/- The law that a message with just its kind's fields is written, and with more it is not. Conditions: those of its row. -/
import Derived.Test.YtnoeeiaffnbhcaaGmputs
namespace Go.Proofs.Ytnoeeiaffnbhcaa.F
open Go.RowKit Go.Proofs.Ytnoeeiaffnbhcaa.M Go.Proofs.Ytnoeeiaffnbhcaa.V
set_option linter.unusedSimpArgs false
set_option linter.unusedVariables false
theorem form_some {k : Int} (h1 : 1 ≤ k) (h2 : k ≤ 24) : ∃ l, form k = some l := by
  have : k = 1 ∨ k = 2 ∨ k = 3 ∨ k = 4 ∨ k = 5 ∨ k = 6 ∨ k = 7 ∨ k = 8 ∨ k = 9 ∨ k = 10 ∨ k = 11 ∨ k = 12 ∨ k = 13 ∨ k = 14 ∨ k = 15 ∨ k = 16 ∨ k = 17 ∨ k = 18 ∨ k = 19 ∨ k = 20 ∨ k = 21 ∨ k = 22 ∨ k = 23 ∨ k = 24 := by omega
  rcases this with rfl | rfl | rfl | rfl | rfl | rfl | rfl | rfl | rfl | rfl | rfl | rfl | rfl | rfl | rfl | rfl | rfl | rfl | rfl | rfl | rfl | rfl | rfl | rfl <;> exact ⟨_, rfl⟩
theorem only_kind (x : Msg) : (onlyMsg x).kind = x.kind := by
  obtain ⟨k, a1, a2, a3, a4, a5, a6, a7, a8, a9, a10, a11, a12, a13, a14, a15, a16, a17, a18, a19, a20⟩ := x
  rcases kinds_cases k with h' | h'
  · rcases h' with rfl | rfl | rfl | rfl | rfl | rfl | rfl | rfl | rfl | rfl | rfl | rfl | rfl | rfl | rfl | rfl | rfl | rfl | rfl | rfl | rfl | rfl | rfl | rfl <;> rfl
  · have hf' : form k = none := by simp only [form, h', if_false]
    simp only [onlyMsg, hf']; rfl
theorem only_req {x : Msg} (h : x.kind = 7) : (onlyMsg x).req = 0 ∧ ∀ n, onlyMsg { onlyMsg x with req := n } = onlyMsg x := by
  obtain ⟨k, a1, a2, a3, a4, a5, a6, a7, a8, a9, a10, a11, a12, a13, a14, a15, a16, a17, a18, a19, a20⟩ := x
  cases h
  exact ⟨rfl, fun n => rfl⟩
theorem only_caps {x : Msg} (h : 11 ≤ x.kind) (h2 : x.kind ≤ 24) : (onlyMsg x).caps = 0 ∧ ∀ n, onlyMsg { onlyMsg x with caps := n } = onlyMsg x := by
  obtain ⟨k, a1, a2, a3, a4, a5, a6, a7, a8, a9, a10, a11, a12, a13, a14, a15, a16, a17, a18, a19, a20⟩ := x
  have : k = 11 ∨ k = 12 ∨ k = 13 ∨ k = 14 ∨ k = 15 ∨ k = 16 ∨ k = 17 ∨ k = 18 ∨ k = 19 ∨ k = 20 ∨ k = 21 ∨ k = 22 ∨ k = 23 ∨ k = 24 := by simp only at h h2; omega
  rcases this with rfl | rfl | rfl | rfl | rfl | rfl | rfl | rfl | rfl | rfl | rfl | rfl | rfl | rfl <;> exact ⟨rfl, fun n => rfl⟩
theorem only_page {x : Msg} (h : 1 ≤ x.kind) (h2 : x.kind < 11) : (onlyMsg x).page = 0 ∧ ∀ n, onlyMsg { onlyMsg x with page := n } = onlyMsg x := by
  obtain ⟨k, a1, a2, a3, a4, a5, a6, a7, a8, a9, a10, a11, a12, a13, a14, a15, a16, a17, a18, a19, a20⟩ := x
  have : k = 1 ∨ k = 2 ∨ k = 3 ∨ k = 4 ∨ k = 5 ∨ k = 6 ∨ k = 7 ∨ k = 8 ∨ k = 9 ∨ k = 10 := by simp only at h h2; omega
  rcases this with rfl | rfl | rfl | rfl | rfl | rfl | rfl | rfl | rfl | rfl <;> exact ⟨rfl, fun n => rfl⟩
theorem only_only (x : Msg) : onlyMsg (onlyMsg x) = onlyMsg x := by
  obtain ⟨k, a1, a2, a3, a4, a5, a6, a7, a8, a9, a10, a11, a12, a13, a14, a15, a16, a17, a18, a19, a20⟩ := x
  rcases kinds_cases k with h' | h'
  · rcases h' with rfl | rfl | rfl | rfl | rfl | rfl | rfl | rfl | rfl | rfl | rfl | rfl | rfl | rfl | rfl | rfl | rfl | rfl | rfl | rfl | rfl | rfl | rfl | rfl <;> rfl
  · have hf' : form k = none := by simp only [form, h', if_false]
    simp only [onlyMsg, hf', zMsg]
/-- A message with a field that is not of its kind's is written just if this is nothing. -/
theorem put_more {y z : Msg} (hy : RMsg y) (hz : RMsg z) {l : ByteArray} (hf : form y.kind = some l) (hk : z.kind = y.kind) (ho : onlyMsg y = y) (hoz : onlyMsg z = y) : PutOk z ↔ PutOk y ∧ z = y := by
  rw [putOk_iff hz (by rw [hk]; exact hf), putOk_iff hy hf, hoz, ho]
  constructor
  · rintro ⟨rfl, h⟩; exact ⟨⟨rfl, h⟩, rfl⟩
  · rintro ⟨⟨_, h⟩, rfl⟩; exact ⟨rfl, h⟩
set_option maxRecDepth 20000
theorem fields_walk {w : World} {x : Msg} {cs : List Value} {n : Int} (hx : kMsg.rep (fun k => k < w.heap.size) w x cs) (hn : 0 ≤ n ∧ n ≤ 4294967295) :
    callK Try.prog 7 #[.agg cs.toArray, .int .u32 n] w fun v w' => v = .bool true ∧ Keep w w' := by
  refine callK_of Try.func7 c7 r7 (by exact Nat.le_of_ble_eq_true rfl) ?_
  rw [m7]
  simp -implicitDefEqProofs only [go_sem, ↓reduceIte, Nat.reduceEqDiff, Int.reduceLT, Nat.reduceLT, Int.reduceToNat, Int.reducePow, Nat.reduceAdd, Int.reduceEq, Nat.reduceLeDiff, Int.reduceLE]
  have hM1 : MsgAt 37 (fun k => k < w.heap.size) (w.alloc (.cells cs.toArray 37)) w.heap.size x := ⟨cs, Blk.new w _ _, kMsg.keep hx (Fx.alloc _ _ _)⟩
  have kA : Keep w (w.alloc (.cells cs.toArray 37)) := Fx.alloc _ w _
  generalize w.alloc (.cells cs.toArray 37) = w1 at *
  obtain ⟨b0, hb0⟩ : ∃ b0, b0 = w.heap.size := ⟨_, rfl⟩
  rw [← hb0] at hM1 ⊢
  refine (alive_calls w1).mono ?_
  rintro v w2 ⟨rfl, k2⟩
  have hM2 := hM1.keep k2
  have kk2 := kA.tr k2
  obtain ⟨cs2, ld2, hr2⟩ := msg_load hM2
  simp -implicitDefEqProofs only [go_sem, ↓reduceIte, Nat.reduceEqDiff, Int.reduceLT, Nat.reduceLT, Int.reduceToNat, Int.reducePow, Nat.reduceAdd, Int.reduceEq, Nat.reduceLeDiff, Int.reduceLE, ld2]
  refine (greatMsg_calls hr2).mono ?_
  rintro v w3 ⟨⟨q, rfl⟩, k3⟩
  have hM3 := hM2.keep k3
  have kk3 := kk2.tr k3
  have s3 := kk3.size
  cases q with
  | true =>
    simp -implicitDefEqProofs only [go_sem, ↓reduceIte, Nat.reduceEqDiff, Int.reduceLT, Nat.reduceLT, Int.reduceToNat, Int.reducePow, Nat.reduceAdd, Int.reduceEq, Nat.reduceLeDiff, Int.reduceLE]
    exact ⟨trivial, kk3⟩
  | false =>
  obtain ⟨v, hck, _, hv, hwf⟩ := hM3.cell lnKind rfl
  simp only [List.cons.injEq, and_true] at hv
  subst hv
  obtain ⟨n0, n1⟩ := wf_u8' hwf
  by_cases h1 : x.kind < 1
  · simp -implicitDefEqProofs only [go_sem, ↓reduceIte, Nat.reduceEqDiff, Int.reduceLT, Nat.reduceLT, Int.reduceToNat, Int.reducePow, Nat.reduceAdd, Int.reduceEq, Nat.reduceLeDiff, Int.reduceLE, hck, h1]
    exact ⟨trivial, kk3⟩
  by_cases h2 : 24 < x.kind
  · simp -implicitDefEqProofs only [go_sem, ↓reduceIte, Nat.reduceEqDiff, Int.reduceLT, Nat.reduceLT, Int.reduceToNat, Int.reducePow, Nat.reduceAdd, Int.reduceEq, Nat.reduceLeDiff, Int.reduceLE, hck, h1, h2]
    exact ⟨trivial, kk3⟩
  obtain ⟨cs3, ld3, hr3⟩ := msg_load hM3
  simp -implicitDefEqProofs only [go_sem, ↓reduceIte, Nat.reduceEqDiff, Int.reduceLT, Nat.reduceLT, Int.reduceToNat, Int.reducePow, Nat.reduceAdd, Int.reduceEq, Nat.reduceLeDiff, Int.reduceLE, hck, h1, h2, ld3]
  refine (refOnly_calls (kMsg.mono hr3 fun k hk _ => hk)).mono ?_
  rintro v w4 ⟨ds, rfl, hr4, k4⟩
  obtain ⟨w5, S5, hM5, k5, s5⟩ := store_msg hr4
  have hX5 := (hM3.keep k4).keep k5
  have kk5 := (kk3.tr k4).tr k5
  obtain ⟨cs5, ld5, hr5⟩ := msg_load hM5
  simp -implicitDefEqProofs only [go_sem, ↓reduceIte, Nat.reduceEqDiff, Int.reduceLT, Nat.reduceLT, Int.reduceToNat, Int.reducePow, Nat.reduceAdd, Int.reduceEq, Nat.reduceLeDiff, Int.reduceLE, S5, ld5]
  have hko := only_kind x
  have hoo := only_only x
  have hf7 : x.kind = 7 → (onlyMsg x).req = 0 ∧ ∀ n, onlyMsg { onlyMsg x with req := n } = onlyMsg x := only_req
  have hf11 : 11 ≤ x.kind → (onlyMsg x).caps = 0 ∧ ∀ n, onlyMsg { onlyMsg x with caps := n } = onlyMsg x := fun h => only_caps h (by omega)
  have hf1 : x.kind < 11 → (onlyMsg x).page = 0 ∧ ∀ n, onlyMsg { onlyMsg x with page := n } = onlyMsg x := fun h => only_page (by omega) h
  generalize onlyMsg x = y at *
  have hRy := rmsg_of hr5
  obtain ⟨l, hf⟩ : ∃ l, form y.kind = some l := by
    rw [hko]
    exact form_some (by omega) (by omega)
  refine (put_msg_calls (kMsg.mono hr5 fun k hk _ => hk)).mono ?_
  rintro v w6 ⟨hv6, k6⟩
  obtain ⟨u6, q6, rfl, hq6⟩ : ∃ u q, v = .tuple #[u, .bool q] ∧ (q = true ↔ PutOk y) := by
    rcases hv6 with ⟨h, rfl⟩ | ⟨h, v1, rfl, _⟩
    · exact ⟨_, false, rfl, ⟨fun h' => (by cases h'), fun h' => absurd h' h⟩⟩
    · exact ⟨_, true, rfl, ⟨fun _ => h, fun _ => rfl⟩⟩
  have hM6 := hM5.keep k6
  have hX6 := hX5.keep k6
  have kk6 := kk5.tr k6
  obtain ⟨cs6, ld6, hr6⟩ := msg_load hM6
  simp -implicitDefEqProofs only [go_sem, ↓reduceIte, Nat.reduceEqDiff, Int.reduceLT, Nat.reduceLT, Int.reduceToNat, Int.reducePow, Nat.reduceAdd, Int.reduceEq, Nat.reduceLeDiff, Int.reduceLE, ld6]
  refine (refPutMsg_calls (kMsg.mono hr6 fun k hk _ => hk)).mono ?_
  rintro v w7 ⟨hv7, k7⟩
  obtain ⟨u7, rfl⟩ : ∃ u, v = .tuple #[u, .bool q6] := by
    rcases hv7 with ⟨h, rfl⟩ | ⟨h, v1, l, hf, rfl, _⟩
    · have : q6 = false := by cases q6 <;> simp_all
      rw [this]; exact ⟨_, rfl⟩
    · have : q6 = true := hq6.2 h
      rw [this]; exact ⟨_, rfl⟩
  have hM7 := hM6.keep k7
  have hX7 := hX6.keep k7
  have kk7 := kk6.tr k7
  obtain ⟨cs7, ld7, hr7⟩ := msg_load hM7
  obtain ⟨w8, S8, hM8, k8, s8⟩ := store_msg hr7
  have hX8 := hX7.keep k8
  have kk8 := kk7.tr k8
  have hM8' : MsgAt 37 (fun k => k < w7.heap.size) w8 w7.heap.size y := by
    obtain ⟨cy, hy, hr⟩ := hM8
    exact ⟨cy, hy, kMsg.mono hr fun k _ hk => hk.2⟩
  obtain ⟨v, hck8, _, hv, _⟩ := hX8.cell lnKind rfl
  simp only [List.cons.injEq, and_true] at hv
  subst hv
  have s7 := kk7.size
  have e6 : (q6 == q6) = true := beq_self_eq_true _
  have last : ∀ {wz : World} {z : Msg}, MsgAt 37 (fun k => k < w7.heap.size) wz w7.heap.size z → z.kind = y.kind → onlyMsg z = y → (z = y ↔ n = 0) →
      ∃ cz, ldV Try.prog wz 37 (.pointer (some (At w7.heap.size 0))) = some (.agg (List.toArray cz)) ∧ callK Try.prog 12 #[.agg cz.toArray] wz fun v w' => (∃ u q, v = .tuple #[u, .bool q] ∧ (q == (q6 && (n == 0))) = true) ∧ Keep wz w' := by
    intro wz z hz hkz hoz hn0
    obtain ⟨cz, ldz, hrz⟩ := msg_load hz
    refine ⟨cz, ldz, (put_msg_calls (kMsg.mono hrz fun k hk _ => by have := hz.lt; omega)).mono ?_⟩
    rintro v wy ⟨hv, ky⟩
    have hp := put_more hRy (rmsg_of hrz) hf hkz hoo hoz
    rw [hn0, ← hq6] at hp
    refine ⟨?_, ky⟩
    rcases hv with ⟨h, rfl⟩ | ⟨h, v1, rfl, _⟩
    · refine ⟨_, false, rfl, ?_⟩
      rw [hp] at h
      cases q6 <;> simp_all
    · refine ⟨_, true, rfl, ?_⟩
      rw [hp] at h
      simp [h.1, h.2]
  obtain ⟨v, hc1, hz1, hv, _⟩ := hM8'.cell lnReq rfl
  obtain ⟨v, hc2, hz2, hv, _⟩ := hM8'.cell lnCaps rfl
  obtain ⟨v, hc3, hz3, hv, _⟩ := hM8'.cell lnPage rfl
  have nz : ¬ (fun k => k < w7.heap.size) w7.heap.size := fun h => Nat.lt_irrefl _ h
  have rep : (Kind.int .u32).rep (fun k => k < w7.heap.size) w8 n [.int .u32 n] := ⟨rfl, wfU32 hn.1 hn.2⟩
  have fin : ∀ (K : Prop), (x.kind = 7 → (x.kind == 7) = true → K) → ((x.kind == 7) = false → 11 ≤ x.kind → K) → ((x.kind == 7) = false → ¬ 11 ≤ x.kind → K) → K := by
    intro K f1 f2 f3
    by_cases h7 : x.kind = 7
    · exact f1 h7 (by simp [h7])
    · by_cases h11 : 11 ≤ x.kind
      · exact f2 (by simpa using h7) h11
      · exact f3 (by simpa using h7) h11
  refine fin _ (fun h7 e7 => ?_) (fun e7 h11 => ?_) (fun e7 h11 => ?_)
  · obtain ⟨g1, g2⟩ := hf7 h7
    have hM9 := hM8'.set lnReq nz rep (by decide)
    obtain ⟨cz, ldz, hcz⟩ := last hM9 rfl (g2 n) ⟨fun h => by have := congrArg Msg.req h; rw [g1] at this; exact this, fun h => by subst h; rw [← g1]⟩
    have k9 : Keep w (w8.setCell (At w7.heap.size 1) (.int .u32 n)) := kk8.new (Fx.set (m := only w7.heap.size) _ _ _ rfl) (fun k e hk => by have : k = w7.heap.size := e; omega)
    simp -implicitDefEqProofs only [go_sem, ↓reduceIte, Nat.reduceEqDiff, Int.reduceLT, Nat.reduceLT, Int.reduceToNat, Int.reducePow, Nat.reduceAdd, Int.reduceEq, Nat.reduceLeDiff, Int.reduceLE, ld7, S8, hck8, e7, hc1, hz1, ldz]
    refine hcz.mono ?_
    rintro v wy ⟨⟨u, q, rfl, hq⟩, ky⟩
    cases q6 with
    | true =>
      rw [Bool.true_and] at hq
      simp -implicitDefEqProofs only [go_sem, ↓reduceIte, Nat.reduceEqDiff, Int.reduceLT, Nat.reduceLT, Int.reduceToNat, Int.reducePow, Nat.reduceAdd, Int.reduceEq, Nat.reduceLeDiff, Int.reduceLE, hq, e6]
      exact ⟨(by first | rfl | trivial), k9.tr ky⟩
    | false =>
      rw [Bool.false_and] at hq
      simp -implicitDefEqProofs only [go_sem, ↓reduceIte, Nat.reduceEqDiff, Int.reduceLT, Nat.reduceLT, Int.reduceToNat, Int.reducePow, Nat.reduceAdd, Int.reduceEq, Nat.reduceLeDiff, Int.reduceLE, hq, e6]
      exact ⟨(by first | rfl | trivial), k9.tr ky⟩
  · obtain ⟨g1, g2⟩ := hf11 h11
    have hM9 := hM8'.set lnCaps nz rep (by decide)
    obtain ⟨cz, ldz, hcz⟩ := last hM9 rfl (g2 n) ⟨fun h => by have := congrArg Msg.caps h; rw [g1] at this; exact this, fun h => by subst h; rw [← g1]⟩
    have k9 : Keep w (w8.setCell (At w7.heap.size 2) (.int .u32 n)) := kk8.new (Fx.set (m := only w7.heap.size) _ _ _ rfl) (fun k e hk => by have : k = w7.heap.size := e; omega)
    simp -implicitDefEqProofs only [go_sem, ↓reduceIte, Nat.reduceEqDiff, Int.reduceLT, Nat.reduceLT, Int.reduceToNat, Int.reducePow, Nat.reduceAdd, Int.reduceEq, Nat.reduceLeDiff, Int.reduceLE, ld7, S8, hck8, e7, h11, hc2, hz2, ldz]
    refine hcz.mono ?_
    rintro v wy ⟨⟨u, q, rfl, hq⟩, ky⟩
    cases q6 with
    | true =>
      rw [Bool.true_and] at hq
      simp -implicitDefEqProofs only [go_sem, ↓reduceIte, Nat.reduceEqDiff, Int.reduceLT, Nat.reduceLT, Int.reduceToNat, Int.reducePow, Nat.reduceAdd, Int.reduceEq, Nat.reduceLeDiff, Int.reduceLE, hq, e6]
      exact ⟨(by first | rfl | trivial), k9.tr ky⟩
    | false =>
      rw [Bool.false_and] at hq
      simp -implicitDefEqProofs only [go_sem, ↓reduceIte, Nat.reduceEqDiff, Int.reduceLT, Nat.reduceLT, Int.reduceToNat, Int.reducePow, Nat.reduceAdd, Int.reduceEq, Nat.reduceLeDiff, Int.reduceLE, hq, e6]
      exact ⟨(by first | rfl | trivial), k9.tr ky⟩
  · obtain ⟨g1, g2⟩ := hf1 (by omega)
    have hM9 := hM8'.set lnPage nz rep (by decide)
    obtain ⟨cz, ldz, hcz⟩ := last hM9 rfl (g2 n) ⟨fun h => by have := congrArg Msg.page h; rw [g1] at this; exact this, fun h => by subst h; rw [← g1]⟩
    have k9 : Keep w (w8.setCell (At w7.heap.size 22) (.int .u32 n)) := kk8.new (Fx.set (m := only w7.heap.size) _ _ _ rfl) (fun k e hk => by have : k = w7.heap.size := e; omega)
    simp -implicitDefEqProofs only [go_sem, ↓reduceIte, Nat.reduceEqDiff, Int.reduceLT, Nat.reduceLT, Int.reduceToNat, Int.reducePow, Nat.reduceAdd, Int.reduceEq, Nat.reduceLeDiff, Int.reduceLE, ld7, S8, hck8, e7, h11, hc3, hz3, ldz]
    refine hcz.mono ?_
    rintro v wy ⟨⟨u, q, rfl, hq⟩, ky⟩
    cases q6 with
    | true =>
      rw [Bool.true_and] at hq
      simp -implicitDefEqProofs only [go_sem, ↓reduceIte, Nat.reduceEqDiff, Int.reduceLT, Nat.reduceLT, Int.reduceToNat, Int.reducePow, Nat.reduceAdd, Int.reduceEq, Nat.reduceLeDiff, Int.reduceLE, hq, e6]
      exact ⟨(by first | rfl | trivial), k9.tr ky⟩
    | false =>
      rw [Bool.false_and] at hq
      simp -implicitDefEqProofs only [go_sem, ↓reduceIte, Nat.reduceEqDiff, Int.reduceLT, Nat.reduceLT, Int.reduceToNat, Int.reducePow, Nat.reduceAdd, Int.reduceEq, Nat.reduceLeDiff, Int.reduceLE, hq, e6]
      exact ⟨(by first | rfl | trivial), k9.tr ky⟩
end Go.Proofs.Ytnoeeiaffnbhcaa.F
