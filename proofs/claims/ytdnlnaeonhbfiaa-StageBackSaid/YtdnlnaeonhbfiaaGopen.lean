/- What a law's row hands to a walk: items and changes. Conditions: those of the row. -/
import Derived.Test.YtdnlnaeonhbfiaaGkind
import Derived.Test.YtdnlnaeonhbfiaaMfns
import Derived.KernelRfl
namespace Go.Proofs.Ytdnlnaeonhbfiaa.F
open Go.RowKit Go.Proofs.Ytdnlnaeonhbfiaa.M Go.Proofs.Ytdnlnaeonhbfiaa.V

theorem opens_vec : Opens Try.prog kVec 78 := opens_list Nat.zero_lt_one Try.underlying78 (by kernel_rfl) (opens_int Try.underlying21)
theorem opens_texts : Opens Try.prog kTexts 79 := opens_list Nat.zero_lt_one Try.underlying79 (by kernel_rfl) (opens_str Try.underlying9)
theorem opens_item : Opens Try.prog kItem 81 :=
  opens_of (fun x : MItem => (x.id, x.vec, x.tags)) (fun a => ⟨a.1, a.2.1, a.2.2⟩) (fun _ => rfl)
    (opens_struct (l := [(26, 0), (78, 1), (79, 2)]) Try.underlying81 rfl (by kernel_rfl)
      (opensF_pair (opens_int Try.underlying26) (by kernel_rfl) (opensF_pair opens_vec (by kernel_rfl) (opensF_last opens_texts (by kernel_rfl)))))
theorem opens_change : Opens Try.prog kChange 83 :=
  opens_of (fun x : MChange => (x.gone, x.item)) (fun a => ⟨a.1, a.2⟩) (fun _ => rfl)
    (opens_struct (l := [(4, 0), (81, 1)]) Try.underlying83 rfl (by kernel_rfl)
      (opensF_pair (opens_bool Try.underlying4) (by kernel_rfl) (opensF_last opens_item (by kernel_rfl))))
theorem opens_changes : Opens Try.prog kChanges 49 := opens_list (Nat.succ_pos 3) Try.underlying49 (by kernel_rfl) opens_change
end Go.Proofs.Ytdnlnaeonhbfiaa.F
