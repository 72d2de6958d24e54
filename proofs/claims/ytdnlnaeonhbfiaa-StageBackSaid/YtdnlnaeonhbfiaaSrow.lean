/- What a law's row hands to a walk: a slice of operations on uploads. Conditions: those of the row. -/
import Derived.Test.YtdnlnaeonhbfiaaSlaws
import Derived.KernelRfl
namespace Go.Proofs.Ytdnlnaeonhbfiaa.F
open Go.RowKit Go.Proofs.Ytdnlnaeonhbfiaa.M Go.Proofs.Ytdnlnaeonhbfiaa.V

theorem opens_bytes : Opens Try.prog kBytes 27 := opens_list Nat.zero_lt_one Try.underlying27 (by kernel_rfl) (opens_int Try.underlying5)
theorem opens_op : Opens Try.prog kOp 29 :=
  opens_of (fun x : Opd => (x.kind, x.owner, x.name, x.n, x.page, x.b)) (fun a => ⟨a.1, a.2.1, a.2.2.1, a.2.2.2.1, a.2.2.2.2.1, a.2.2.2.2.2⟩) (fun _ => rfl)
    (opens_struct (l := [(5, 0), (5, 1), (9, 2), (26, 3), (26, 4), (27, 5)]) Try.underlying29 rfl (by kernel_rfl)
      (opensF_pair (opens_int Try.underlying5) (by kernel_rfl) (opensF_pair (opens_int Try.underlying5) (by kernel_rfl) (opensF_pair (opens_str Try.underlying9) (by kernel_rfl)
        (opensF_pair (opens_int Try.underlying26) (by kernel_rfl) (opensF_pair (opens_int Try.underlying26) (by kernel_rfl) (opensF_last opens_bytes (by kernel_rfl))))))))
theorem opens_ops : Opens Try.prog (Kind.list kOp (Nat.succ_pos 5)) 22 := opens_list (Nat.succ_pos 5) Try.underlying22 (by kernel_rfl) opens_op
end Go.Proofs.Ytdnlnaeonhbfiaa.F
