/- What a law's row hands to a walk: items and changes. Conditions: those of the row. -/
import Derived.Test.YtnlibeaainbipaaGkind
import Derived.Test.YtnlibeaainbipaaMfns
import Derived.KernelRfl
namespace Go.Proofs.Ytnlibeaainbipaa.F
open Go.RowKit Go.Proofs.Ytnlibeaainbipaa.M Go.Proofs.Ytnlibeaainbipaa.V

theorem opens_vec : Opens Try.prog kVec 35 := opens_list Nat.zero_lt_one Try.underlying35 (by kernel_rfl) (opens_int Try.underlying21)
theorem opens_texts : Opens Try.prog kTexts 36 := opens_list Nat.zero_lt_one Try.underlying36 (by kernel_rfl) (opens_str Try.underlying9)
theorem opens_item : Opens Try.prog kItem 58 :=
  opens_of (fun x : MItem => (x.id, x.vec, x.tags)) (fun a => ⟨a.1, a.2.1, a.2.2⟩) (fun _ => rfl)
    (opens_struct (l := [(28, 0), (35, 1), (36, 2)]) Try.underlying58 rfl (by kernel_rfl)
      (opensF_pair (opens_int Try.underlying28) (by kernel_rfl) (opensF_pair opens_vec (by kernel_rfl) (opensF_last opens_texts (by kernel_rfl)))))
theorem opens_change : Opens Try.prog kChange 91 :=
  opens_of (fun x : MChange => (x.gone, x.item)) (fun a => ⟨a.1, a.2⟩) (fun _ => rfl)
    (opens_struct (l := [(4, 0), (58, 1)]) Try.underlying91 rfl (by kernel_rfl)
      (opensF_pair (opens_bool Try.underlying4) (by kernel_rfl) (opensF_last opens_item (by kernel_rfl))))
theorem opens_changes : Opens Try.prog kChanges 34 := opens_list (Nat.succ_pos 3) Try.underlying34 (by kernel_rfl) opens_change
end Go.Proofs.Ytnlibeaainbipaa.F
