/- The document's sum of bytes, in four; a message's bytes are bytes. Conditions: the data is in range. -/
import Derived.Test.YtnlibeaainbipaaGreatFenc
import Derived.Test.YtnlibeaainbipaaGreatGputb
namespace Go.Proofs.YtnlibeaainbipaaGreat.F
open Go.RowKit Go.Proofs.YtnlibeaainbipaaGreat.M Go.Proofs.YtnlibeaainbipaaGreat.V
set_option linter.unusedSimpArgs false
set_option linter.unusedVariables false
set_option maxRecDepth 20000
theorem enc_bs {l : List Int} {x : Msg} (h : OkAll l x) : Bs (encAll l x) := fun b hb => by
  obtain ⟨f, hf, hb⟩ := List.mem_flatMap.1 hb
  exact (fc f).c.bs _ (h f hf) b hb
theorem put_bs {x : Msg} (hR : RMsg x) (h : PutOk x) : Bs (putMsg x).2.b := by
  cases hf : form x.kind with
  | none => have := h.1; unfold putMsg at this; rw [hf] at this; cases this
  | some l => rw [put_bytes hR hf h]; exact enc_bs (ok_of hR hf h)
theorem refSum_calls {w : World} {b : List Int} {A : Option Addr} {c : Nat} (hr : RdI w .u8 A b) (hb : Bs b) (hl : b.length ≤ 1000000000) :
    callK Tryz.prog 26 #[.slice A b.length c] w fun v w' => (∃ A', v = .slice A' 4 4 ∧ RdI w' .u8 A' (sum4 (crcI b))) ∧ Keep w w' := by
  refine callK_of Tryz.func26 c26 r26 (by exact Nat.le_of_ble_eq_true rfl) ?_
  rw [m26]
  simp -implicitDefEqProofs only [go_sem, seval]
  have e := byts_bvs hb
  have hL : (bvs b).length = b.length := by simp [bvs]
  have h := refOf_calls (bs := bvs b) (A := A) (c := c) (w := w) (by rw [e]; exact hr) (by omega)
  rw [hL] at h
  refine h.mono ?_
  rintro v w1 ⟨rfl, rfl⟩
  obtain ⟨r0, r1⟩ := crcI_range b
  have hcr : wi (more 0#32 (bvs b)) = crcI b := rfl
  rw [hcr]
  have E1 : IntKind.u8.wrap (IntKind.u32.wrap ((crcI b).tdiv 16777216)) = crcI b / 16777216 % 256 := by rw [Int.tdiv_eq_ediv_of_nonneg r0, IntKind.wrap_u32, IntKind.wrap_u8]; omega
  have E2 : IntKind.u8.wrap (IntKind.u32.wrap ((crcI b).tdiv 65536)) = crcI b / 65536 % 256 := by rw [Int.tdiv_eq_ediv_of_nonneg r0, IntKind.wrap_u32, IntKind.wrap_u8]; omega
  have E3 : IntKind.u8.wrap (IntKind.u32.wrap ((crcI b).tdiv 256)) = crcI b / 256 % 256 := by rw [Int.tdiv_eq_ediv_of_nonneg r0, IntKind.wrap_u32, IntKind.wrap_u8]; omega
  have E4 : IntKind.u8.wrap (crcI b) = crcI b % 256 := IntKind.wrap_u8 _
  simp -implicitDefEqProofs only [go_sem, seval, E1, E2, E3, E4]
  refine bsl_four ie8 ?_
  simp -implicitDefEqProofs only [go_sem, seval]
  exact ⟨⟨_, rfl, RdI.new w1 5 .u8 (sum4 (crcI b))⟩, Fx.alloc _ _ _⟩
end Go.Proofs.YtnlibeaainbipaaGreat.F
