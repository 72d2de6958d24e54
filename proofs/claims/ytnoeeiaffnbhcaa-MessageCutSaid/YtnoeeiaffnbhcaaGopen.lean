/- What a law's row hands to a walk: items and changes. Conditions: those of the row. -/
import Derived.Test.YtnoeeiaffnbhcaaGkind
import Derived.Test.YtnoeeiaffnbhcaaMfns
import Derived.KernelRfl
namespace Go.Proofs.Ytnoeeiaffnbhcaa.F
open Go.RowKit Go.Proofs.Ytnoeeiaffnbhcaa.M Go.Proofs.Ytnoeeiaffnbhcaa.V

theorem opens_vec : Opens Try.prog kVec 29 := opens_list Nat.zero_lt_one Try.underlying29 (by kernel_rfl) (opens_int Try.underlying21)
theorem opens_texts : Opens Try.prog kTexts 30 := opens_list Nat.zero_lt_one Try.underlying30 (by kernel_rfl) (opens_str Try.underlying9)
theorem opens_item : Opens Try.prog kItem 67 :=
  opens_of (fun x : MItem => (x.id, x.vec, x.tags)) (fun a => ⟨a.1, a.2.1, a.2.2⟩) (fun _ => rfl)
    (opens_struct (l := [(22, 0), (29, 1), (30, 2)]) Try.underlying67 rfl (by kernel_rfl)
      (opensF_pair (opens_int Try.underlying22) (by kernel_rfl) (opensF_pair opens_vec (by kernel_rfl) (opensF_last opens_texts (by kernel_rfl)))))
theorem opens_change : Opens Try.prog kChange 103 :=
  opens_of (fun x : MChange => (x.gone, x.item)) (fun a => ⟨a.1, a.2⟩) (fun _ => rfl)
    (opens_struct (l := [(4, 0), (67, 1)]) Try.underlying103 rfl (by kernel_rfl)
      (opensF_pair (opens_bool Try.underlying4) (by kernel_rfl) (opensF_last opens_item (by kernel_rfl))))
theorem opens_changes : Opens Try.prog kChanges 28 := opens_list (Nat.succ_pos 3) Try.underlying28 (by kernel_rfl) opens_change
end Go.Proofs.Ytnoeeiaffnbhcaa.F
