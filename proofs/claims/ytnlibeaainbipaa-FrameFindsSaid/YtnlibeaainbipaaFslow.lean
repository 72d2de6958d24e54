/- sync.Once's slow road, not yet done and the lock free: the table is made, the flag is stored, the lock is let go. Conditions: those. -/
import Derived.Test.YtnlibeaainbipaaFlock
import Derived.Test.YtnlibeaainbipaaZ5
namespace Go.Proofs.Ytnlibeaainbipaa.F
open Go.Proofs.Ytnlibeaainbipaa.M Go.Proofs.Ytnlibeaainbipaa.S

theorem fx_set {g : Nat} {w w' : World} (h : Fx (only g) w w') (i : Nat) (v : Value) : Fx (only g) w (w'.setCell (At g i) v) := h.trans (Fx.set (m := only g) w' (At g i) v rfl) (fun _ _ h => h)

set_option maxRecDepth 100000 in
set_option maxHeartbeats 1600000 in
theorem slow_calls {w : World} {g : Nat} {sm mk : Int} {tab : List Int} (h : Blk w g 89 (sumC 0 0 sm mk tab)) (ht : tab.length = 256) :
    Calls Try.prog 71 #[.pointer (some (At g 0)), .func (.func 44) #[.pointer (some (At g 0))] #[]] w fun e w' => e = .returned (.tuple #[]) ∧ Blk w' g 89 (sumC 1 0 sm 1 crcTab) ∧ Fx (only g) w w' := by
  have c1 := sum_at h 1
  have f1 := h.frozen 1
  have h1 : Blk (w.setCell (At g 1) (.int .i32 1)) g 89 (sumC 0 1 sm mk tab) := by rw [← set_lock 0 0 sm mk 1 tab]; exact h.set 1 _
  have hl := callK.calls (by kernel_rfl) (load_calls (x := 0) (sum_at h1 0))
  have hm := callK.calls (by kernel_rfl) (make_calls h1 ht)
  have hnot : ∀ (x : Bool) (w : World), (Op.unary .not (.bool x)).run Try.prog w = .ok (.bool (!x)) w := fun _ _ => rfl
  go_enter_defers Try.func71, Try.ntmps71
  go_wp2_with (first | (go_at_call 82; refine (lock_free (At g 1) _ c1 f1).mono ?_; rintro e w' ⟨rfl, rfl⟩) | (go_at_call 70; refine hl.mono ?_; rintro e w' ⟨v, rfl, rfl, rfl⟩) | (go_at_call 44; refine hm.mono ?_; rintro e w' ⟨v, rfl, rfl, hB, hF⟩))
  refine leaves_cons (f := 72) (args := #[.pointer (some (At g 0)), .bool true]) (by simp) (by simp [go_sem]) ?_
  refine (store_deferred (At g 0) (.int .u32 0) .returning _ (sum_at hB 0) (hB.frozen 0)).mono ?_
  rintro e u' w2 ⟨rfl, rfl, hw2⟩
  have h2 : Blk w2 g 89 (sumC 1 1 sm 1 crcTab) := by rw [hw2, ← set_done 0 1 sm 1 1 crcTab]; exact (Blk.drew hB).set 0 _
  have F2 : Fx (only g) w w2 := by rw [hw2]; exact fx_set (((fx_set (Fx.refl _ w) 1 _).trans hF (fun _ _ h => h)).trans (Fx.drew _ w') (fun _ _ h => h)) 0 _
  refine leaves_cons (f := 83) (args := #[.pointer (some (At g 1))]) (by simp [settle]) (by simp [go_sem]) ?_
  refine (unlock_deferred (At g 1) _ _ (sum_at h2 1) (h2.frozen 1)).mono ?_
  rintro e u' w3 ⟨rfl, rfl, hw3⟩
  have h3 : Blk w3 g 89 (sumC 1 0 sm 1 crcTab) := by rw [hw3, ← set_lock 1 1 sm 1 0 crcTab]; exact h2.set 1 _
  have F3 : Fx (only g) w w3 := by rw [hw3]; exact fx_set F2 1 _
  simp [Leaves, settle, results, Try.results71]
  exact ⟨h3, F3⟩

/-- Not yet made: all is zero. Made: the table stands. -/
def Fresh (w : World) (g : Nat) : Prop := Blk w g 89 (sumC 0 0 0 0 (List.replicate 256 0))
def Ready (w : World) (g : Nat) : Prop := Blk w g 89 (sumC 1 0 0 1 crcTab)

set_option linter.unusedSimpArgs false
set_option linter.unusedVariables false
set_option maxRecDepth 20000
theorem do_calls {w : World} {g : Nat} (h : Fresh w g ∨ Ready w g) : callK Try.prog 43 #[.pointer (some (At g 0)), .func (.func 44) #[.pointer (some (At g 0))] #[]] w fun v w' => v = .tuple #[] ∧ Ready w' g ∧ Fx (only g) w w' := by
  refine callK_of Try.func43 c43 r43 (by exact Nat.le_of_ble_eq_true rfl) ?_
  rw [m43]
  simp -implicitDefEqProofs only [go_sem, seval, add_zero']
  rcases h with h | h
  · refine (load_calls (x := 0) (sum_at h 0)).mono ?_
    rintro v w' ⟨rfl, rfl⟩
    have z : ((0 : Int) != 0) = false := rfl
    simp -implicitDefEqProofs only [go_sem, seval, z]
    refine Calls.callK (by kernel_rfl) ((slow_calls h (by simp)).mono ?_)
    rintro e w2 ⟨rfl, hB, hF⟩
    refine ⟨_, rfl, ?_⟩
    simp -implicitDefEqProofs only [go_sem, seval]
    exact ⟨trivial, hB, hF⟩
  · refine (load_calls (x := 1) (sum_at h 0)).mono ?_
    rintro v w' ⟨rfl, rfl⟩
    have z : ((1 : Int) != 0) = true := rfl
    simp -implicitDefEqProofs only [go_sem, seval, z]
    exact ⟨trivial, h, Fx.refl _ _⟩
end Go.Proofs.Ytnlibeaainbipaa.F
