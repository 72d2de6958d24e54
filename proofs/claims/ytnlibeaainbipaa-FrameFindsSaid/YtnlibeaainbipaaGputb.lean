/- The bytes of what can be written. Conditions: the data is in range. -/
import Derived.Test.YtnlibeaainbipaaGmround
import Derived.Test.YtnlibeaainbipaaGcells
namespace Go.Proofs.Ytnlibeaainbipaa.F
open Go.RowKit Go.Proofs.Ytnlibeaainbipaa.M Go.Proofs.Ytnlibeaainbipaa.V
set_option linter.unusedSimpArgs false
set_option linter.unusedVariables false
set_option maxRecDepth 20000
theorem put_bytes {x : Msg} (hR : RMsg x) {l : ByteArray} (hf : form x.kind = some l) (h : PutOk x) : (putMsg x).2.b = encAll (nums l) x := by
  obtain ⟨p1, p2, p3⟩ := put_all hR (nums l) x ⟨[], false⟩ (form_ok hf).2 (form_nodup hf) (fun _ _ => rfl)
  have hp : putMsg x = putFold (nums l) (x, ⟨[], false⟩) := by unfold putMsg; rw [hf]
  have h1 := h.1
  rw [hp] at h1 ⊢
  rw [p3 h1, List.nil_append]
theorem rmsg_of {U : Nat → Prop} {w : World} {x : Msg} {cs : List Value} (hx : kMsg.rep U w x cs) : RMsg x := by
  obtain ⟨_, _, _, _, _, _, _, _, _, _, _, _, _, _, _, _, _, _, rfl, x_kind, x_req, x_caps, x_token, x_code, x_n, x_name, x_conf, x_changes, x_id, x_vec, x_k, x_width, x_filter, x_num, x_page, x_bytes, x_version, x_names, x_items, x_hits⟩ := kMsg_cases hx
  obtain ⟨_, _, c1, c2, c3, c4⟩ := kConf_cases x_conf
  intro f hf
  rcases letters_cases hf with rfl|rfl|rfl|rfl|rfl|rfl|rfl|rfl|rfl|rfl|rfl|rfl|rfl|rfl|rfl|rfl|rfl|rfl|rfl|rfl
  · exact unU32 x_req
  · exact unU32 x_caps
  · exact unU64 x_token
  · exact wf_u8' x_code
  · exact unU32 x_n
  · exact trivial
  · exact ⟨wf_u8' c1, wf_u8' c2, wf_u8' c3, unU16 c4⟩
  · exact changes_range x_changes.2.2
  · exact unU32 x_id
  · exact ints_range x_vec.2.2
  · exact unU16 x_k
  · exact unU16 x_width
  · exact trivial
  · exact unU32 x_num
  · exact unU32 x_page
  · exact x_bytes.2.2.bs
  · exact unU64 x_version
  · exact trivial
  · exact items_range x_items.2.2
  · exact hits_range x_hits.2.2
theorem ok_of {x : Msg} (hR : RMsg x) {l : ByteArray} (hf : form x.kind = some l) (h : PutOk x) : OkAll (nums l) x := by
  obtain ⟨p1, p2, p3⟩ := put_all hR (nums l) x ⟨[], false⟩ (form_ok hf).2 (form_nodup hf) (fun _ _ => rfl)
  have hp : putMsg x = putFold (nums l) (x, ⟨[], false⟩) := by unfold putMsg; rw [hf]
  have h1 := h.1
  rw [hp, p2] at h1
  exact h1.2
end Go.Proofs.Ytnlibeaainbipaa.F
