/- The document's examples of messages. Conditions: none. -/
import Derived.Test.YtnlibeaainbipaaGget
import Derived.Test.YtnlibeaainbipaaGcells
namespace Go.Proofs.Ytnlibeaainbipaa.M
open Go.RowKit Go.Proofs.Ytnlibeaainbipaa.V
variable {P : Program}
theorem putC_all {cs : Array Value} {vs : List Value} (h : cs.size = vs.length) : putC cs 0 vs = vs.toArray := by
  unfold putC
  apply Array.ext'
  simp [List.drop_of_length_le, h]
end Go.Proofs.Ytnlibeaainbipaa.M
namespace Go.Proofs.Ytnlibeaainbipaa.F
open Go.RowKit Go.Proofs.Ytnlibeaainbipaa.M Go.Proofs.Ytnlibeaainbipaa.V
set_option linter.unusedSimpArgs false
set_option linter.unusedVariables false
set_option maxRecDepth 20000
/-- A message is laid into a new box. -/
theorem store_msg {U : Nat → Prop} {w : World} {x : Msg} {cs : List Value} (hr : kMsg.rep U w x cs) : ∃ w2, stV Try.prog (w.alloc (.cells #[.int .u8 0, .int .u32 0, .int .u32 0, .int .u64 0, .int .u8 0, .int .u32 0, .string ⟨#[]⟩, .string ⟨#[]⟩, .int .u8 0, .int .u8 0, .bool false, .int .u8 0, .int .u16 0, .slice none 0 0, .int .u32 0, .slice none 0 0, .int .u16 0, .int .u16 0, .slice none 0 0, .slice none 0 0, .slice none 0 0, .int .u32 0, .int .u32 0, .slice none 0 0, .int .u64 0, .slice none 0 0, .slice none 0 0, .slice none 0 0] 42)) 42 (.pointer (some (At w.heap.size 0))) (.agg cs.toArray) = some w2 ∧
    MsgAt 42 (fun k => U k ∧ k < w.heap.size) w2 w.heap.size x ∧ Keep w w2 ∧ w2.heap.size = w.heap.size + 1 := by
  have hcl : cs.length = 28 := kMsg.len hr
  have hb : Blk _ _ _ _ := Blk.new w 42 #[.int .u8 0, .int .u32 0, .int .u32 0, .int .u64 0, .int .u8 0, .int .u32 0, .string ⟨#[]⟩, .string ⟨#[]⟩, .int .u8 0, .int .u8 0, .bool false, .int .u8 0, .int .u16 0, .slice none 0 0, .int .u32 0, .slice none 0 0, .int .u16 0, .int .u16 0, .slice none 0 0, .slice none 0 0, .slice none 0 0, .int .u32 0, .int .u32 0, .slice none 0 0, .int .u64 0, .slice none 0 0, .slice none 0 0, .slice none 0 0]
  have S0 := stB (P := Try.prog) (o := 0) sz42 hb (by decide) cs hcl (allOne_of (kMsg.one hr))
  have hb2 := hb.put 0 cs
  rw [putC_all (by rw [hcl]; rfl)] at hb2
  have k2 : Keep w (putW (w.alloc (.cells #[.int .u8 0, .int .u32 0, .int .u32 0, .int .u64 0, .int .u8 0, .int .u32 0, .string ⟨#[]⟩, .string ⟨#[]⟩, .int .u8 0, .int .u8 0, .bool false, .int .u8 0, .int .u16 0, .slice none 0 0, .int .u32 0, .slice none 0 0, .int .u16 0, .int .u16 0, .slice none 0 0, .slice none 0 0, .slice none 0 0, .int .u32 0, .int .u32 0, .slice none 0 0, .int .u64 0, .slice none 0 0, .slice none 0 0, .slice none 0 0] 42)) w.heap.size 0 cs) := (Fx.alloc (fun _ => False) w _).new (Fx.put (m := only w.heap.size) _ _ _ _ rfl) (fun k e hk => by have : k = w.heap.size := e; omega)
  exact ⟨_, S0, ⟨cs, hb2, kMsg.keep (kMsg.lt hr) k2⟩, k2, by rw [size_put]; exact size_alloc _ _⟩
theorem msg_load {U : Nat → Prop} {w : World} {g : Nat} {x : Msg} (h : MsgAt 42 U w g x) : ∃ cs, ldV Try.prog w 42 (.pointer (some (At g 0))) = some (.agg (List.toArray cs)) ∧ kMsg.rep U w x cs := by
  obtain ⟨cs, hb, hr⟩ := h
  have hcl : cs.length = 28 := kMsg.len hr
  have hci := cells_in hb 0 28
  rw [List.drop_zero, List.take_of_length_le (by omega)] at hci
  exact ⟨cs, ldV_agg sh42 hcl hci, hr⟩
def ping : Msg := { zMsg 7 with n := 300 }
theorem ping_rep {U : Nat → Prop} {w : World} : kMsg.rep U w ping [.int .u8 7, .int .u32 0, .int .u32 0, .int .u64 0, .int .u8 0, .int .u32 300, .string ⟨#[]⟩, .string ⟨#[]⟩, .int .u8 0, .int .u8 0, .bool false, .int .u8 0, .int .u16 0, .slice none 0 0, .int .u32 0, .slice none 0 0, .int .u16 0, .int .u16 0, .slice none 0 0, .slice none 0 0, .slice none 0 0, .int .u32 0, .int .u32 0, .slice none 0 0, .int .u64 0, .slice none 0 0, .slice none 0 0, .slice none 0 0] := lnN.put (y := (300 : Int)) (vs := [.int .u32 300]) (zMsg_rep (k := 7) (by decide) (by decide)) ⟨rfl, rfl⟩
theorem ping_put : putMsg ping = (zMsg 7, ⟨[172, 2], false⟩) := by kernel_rfl
theorem ping_ok : PutOk ping := by unfold PutOk; rw [ping_put]; exact ⟨rfl, rfl⟩
theorem ping_get : getMsg 7 [172, 2] = (ping, 0) := by kernel_rfl
theorem ping_more : (getMsg 7 [172, 2, 0]).2 = 60 := by kernel_rfl
theorem kind_get : (getMsg 25 []).2 = 61 := by kernel_rfl
theorem elems_own {b : Nat} {w : World} {A : Option Addr} {c : Nat} {xs : List Int} (ho : OwnI 5 .u8 b w (.slice A xs.length c) xs) (hb : Bs xs) : c ≤ maxLen ∧ Elems (Kind.int .u8) (fun k => b ≤ k ∧ k < w.heap.size) w A xs := by
  have hr : RdI w .u8 A xs := by
    obtain ⟨A', c', e, _, hr⟩ := ho.slice
    have := (Value.slice.inj e).1
    rw [this]; exact hr
  refine ⟨?_, elems_of hr (fun ad e hne => ?_) (fun x hx => u8_wf (hb x hx).1 (hb x hx).2)⟩
  · rcases ho.2 with ⟨hv, _⟩ | ⟨g', cap, cur, hv, _, _, hcc, hmm, _⟩
    · have := (Value.slice.inj hv).2.2; omega
    · have := (Value.slice.inj hv).2.2; omega
  · subst e
    rcases ho.2 with ⟨hv, _⟩ | ⟨g', cap, cur, hv, h1, h2, _⟩
    · have := (Value.slice.inj hv).1; cases this
    · have := (Value.slice.inj hv).1
      cases this
      exact ⟨h1, (Array.getElem?_eq_some_iff.1 h2).1⟩
theorem bs172 : Bs [172, 2] := fun x hx => by simp at hx; omega
end Go.Proofs.Ytnlibeaainbipaa.F
