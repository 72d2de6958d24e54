/- What a law's row hands to a walk: items and changes. Conditions: those of the row. -/
import Derived.Test.YtnlibeaainbipaaGreatGkind
import Derived.Test.YtnlibeaainbipaaGreatMfns
import Derived.KernelRfl
namespace Go.Proofs.YtnlibeaainbipaaGreat.F
open Go.RowKit Go.Proofs.YtnlibeaainbipaaGreat.M Go.Proofs.YtnlibeaainbipaaGreat.V

theorem opens_vec : Opens Tryz.prog kVec 29 := opens_list Nat.zero_lt_one Tryz.underlying29 (by kernel_rfl) (opens_int Tryz.underlying21)
theorem opens_texts : Opens Tryz.prog kTexts 30 := opens_list Nat.zero_lt_one Tryz.underlying30 (by kernel_rfl) (opens_str Tryz.underlying9)
theorem opens_item : Opens Tryz.prog kItem 64 :=
  opens_of (fun x : MItem => (x.id, x.vec, x.tags)) (fun a => ⟨a.1, a.2.1, a.2.2⟩) (fun _ => rfl)
    (opens_struct (l := [(22, 0), (29, 1), (30, 2)]) Tryz.underlying64 rfl (by kernel_rfl)
      (opensF_pair (opens_int Tryz.underlying22) (by kernel_rfl) (opensF_pair opens_vec (by kernel_rfl) (opensF_last opens_texts (by kernel_rfl)))))
theorem opens_change : Opens Tryz.prog kChange 99 :=
  opens_of (fun x : MChange => (x.gone, x.item)) (fun a => ⟨a.1, a.2⟩) (fun _ => rfl)
    (opens_struct (l := [(4, 0), (64, 1)]) Tryz.underlying99 rfl (by kernel_rfl)
      (opensF_pair (opens_bool Tryz.underlying4) (by kernel_rfl) (opensF_last opens_item (by kernel_rfl))))
theorem opens_changes : Opens Tryz.prog kChanges 28 := opens_list (Nat.succ_pos 3) Tryz.underlying28 (by kernel_rfl) opens_change
end Go.Proofs.YtnlibeaainbipaaGreat.F
