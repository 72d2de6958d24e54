/- What the row of StageBack hands to its walk. Conditions: those of the row. -/
import Derived.Test.YtdnlnaeonhbfiaaSback
import Derived.Test.YtdnlnaeonhbfiaaGopen
namespace Go.Proofs.Ytdnlnaeonhbfiaa.F
open Go.RowKit Go.Proofs.Ytdnlnaeonhbfiaa.M Go.Proofs.Ytdnlnaeonhbfiaa.V
theorem opens_u16s : Opens Try.prog (Kind.list (Kind.int .u16) Nat.zero_lt_one) 56 := opens_list Nat.zero_lt_one Try.underlying56 (by kernel_rfl) (opens_int Try.underlying60)
end Go.Proofs.Ytdnlnaeonhbfiaa.F
