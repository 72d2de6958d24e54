/- The document's sum of bytes, in four; a message's bytes are bytes. Conditions: the data is in range. -/
import Derived.Test.YtnlibeaainbipaaFenc
import Derived.Test.YtnlibeaainbipaaGputb
namespace Go.Proofs.Ytnlibeaainbipaa.F
open Go.RowKit Go.Proofs.Ytnlibeaainbipaa.M Go.Proofs.Ytnlibeaainbipaa.V
set_option linter.unusedSimpArgs false
set_option linter.unusedVariables false
set_option maxRecDepth 20000
theorem enc_bs {l : List Int} {x : Msg} (h : OkAll l x) : Bs (encAll l x) := fun b hb => by
  obtain ⟨f, hf, hb⟩ := List.mem_flatMap.1 hb
  exact (fc f).c.bs _ (h f hf) b hb
theorem put_bs {x : Msg} (hR : RMsg x) (h : PutOk x) : Bs (putMsg x).2.b := by
  cases hf : form x.kind with
  | none => have := h.1; unfold putMsg at this; rw [hf] at this; cases this
  | some l => rw [put_bytes hR hf h]; exact enc_bs (ok_of hR hf h)
end Go.Proofs.Ytnlibeaainbipaa.F
