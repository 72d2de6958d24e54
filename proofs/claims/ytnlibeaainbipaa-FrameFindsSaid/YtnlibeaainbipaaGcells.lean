/- A message's cells, one by one; is it empty? Conditions: none beyond those that each theorem names. -/
import Derived.Test.YtnlibeaainbipaaGwfield
import Derived.Test.YtnlibeaainbipaaGsame
import Derived.Laws.StructEq
namespace Go.Proofs.Ytnlibeaainbipaa.M
open Go.RowKit Go.Proofs.Ytnlibeaainbipaa.V
theorem kMsg_cases {U : Nat → Prop} {w : World} {x : Msg} {cs : List Value} (h : kMsg.rep U w x cs) : ∃ A_changes c_changes A_vec c_vec Aa ca Ab cb Ac cc A_bytes c_bytes A_names c_names A_items c_items A_hits c_hits, cs = [.int .u8 x.kind, .int .u32 x.req, .int .u32 x.caps, .int .u64 x.token, .int .u8 x.code, .int .u32 x.n, .string x.name, .string x.conf.name, .int .u8 x.conf.dim, .int .u8 x.conf.metric, .bool x.conf.graph, .int .u8 x.conf.links, .int .u16 x.conf.width, .slice A_changes x.changes.length c_changes, .int .u32 x.id, .slice A_vec x.vec.length c_vec, .int .u16 x.k, .int .u16 x.width, .slice Aa x.filter.all.length ca, .slice Ab x.filter.any.length cb, .slice Ac x.filter.none.length cc, .int .u32 x.num, .int .u32 x.page, .slice A_bytes x.bytes.length c_bytes, .int .u64 x.version, .slice A_names x.names.length c_names, .slice A_items x.items.length c_items, .slice A_hits x.hits.length c_hits] ∧ ((Lit.int .u8 x.kind).wf = true) ∧ ((Lit.int .u32 x.req).wf = true) ∧ ((Lit.int .u32 x.caps).wf = true) ∧ ((Lit.int .u64 x.token).wf = true) ∧ ((Lit.int .u8 x.code).wf = true) ∧ ((Lit.int .u32 x.n).wf = true) ∧ (x.name.size ≤ maxLen) ∧ (kConf.rep U w x.conf [.string x.conf.name, .int .u8 x.conf.dim, .int .u8 x.conf.metric, .bool x.conf.graph, .int .u8 x.conf.links, .int .u16 x.conf.width]) ∧ (x.changes.length ≤ c_changes ∧ c_changes ≤ maxLen ∧ Elems kChange U w A_changes x.changes) ∧ ((Lit.int .u32 x.id).wf = true) ∧ (x.vec.length ≤ c_vec ∧ c_vec ≤ maxLen ∧ Elems (Kind.int .i32) U w A_vec x.vec) ∧ ((Lit.int .u16 x.k).wf = true) ∧ ((Lit.int .u16 x.width).wf = true) ∧ (kFilter.rep U w x.filter [.slice Aa x.filter.all.length ca, .slice Ab x.filter.any.length cb, .slice Ac x.filter.none.length cc]) ∧ ((Lit.int .u32 x.num).wf = true) ∧ ((Lit.int .u32 x.page).wf = true) ∧ (x.bytes.length ≤ c_bytes ∧ c_bytes ≤ maxLen ∧ Elems (Kind.int .u8) U w A_bytes x.bytes) ∧ ((Lit.int .u64 x.version).wf = true) ∧ (x.names.length ≤ c_names ∧ c_names ≤ maxLen ∧ Elems Kind.str U w A_names x.names) ∧ (x.items.length ≤ c_items ∧ c_items ≤ maxLen ∧ Elems kItem U w A_items x.items) ∧ (x.hits.length ≤ c_hits ∧ c_hits ≤ maxLen ∧ Elems kHit U w A_hits x.hits) := by
  obtain ⟨_, _, rfl, ⟨rfl, h_kind⟩, _, _, rfl, ⟨rfl, h_req⟩, _, _, rfl, ⟨rfl, h_caps⟩, _, _, rfl, ⟨rfl, h_token⟩, _, _, rfl, ⟨rfl, h_code⟩, _, _, rfl, ⟨rfl, h_n⟩, _, _, rfl, ⟨rfl, h_name⟩, _, _, rfl, h_conf, _, _, rfl, h_changes, _, _, rfl, ⟨rfl, h_id⟩, _, _, rfl, h_vec, _, _, rfl, ⟨rfl, h_k⟩, _, _, rfl, ⟨rfl, h_width⟩, _, _, rfl, h_filter, _, _, rfl, ⟨rfl, h_num⟩, _, _, rfl, ⟨rfl, h_page⟩, _, _, rfl, h_bytes, _, _, rfl, ⟨rfl, h_version⟩, _, _, rfl, h_names, _, _, rfl, h_items, h_hits⟩ := h
  obtain ⟨e_conf, _⟩ := kConf_cases h_conf
  subst e_conf
  obtain ⟨A_changes, c_changes, e_changes, g_changes⟩ := list_one h_changes
  subst e_changes
  obtain ⟨A_vec, c_vec, e_vec, g_vec⟩ := list_one h_vec
  subst e_vec
  obtain ⟨Aa, ca, Ab, cb, Ac, cc, e_filter, _⟩ := kFilter_cases h_filter
  subst e_filter
  obtain ⟨A_bytes, c_bytes, e_bytes, g_bytes⟩ := list_one h_bytes
  subst e_bytes
  obtain ⟨A_names, c_names, e_names, g_names⟩ := list_one h_names
  subst e_names
  obtain ⟨A_items, c_items, e_items, g_items⟩ := list_one h_items
  subst e_items
  obtain ⟨A_hits, c_hits, e_hits, g_hits⟩ := list_one h_hits
  subst e_hits
  exact ⟨_, _, _, _, _, _, _, _, _, _, _, _, _, _, _, _, _, _, rfl, h_kind, h_req, h_caps, h_token, h_code, h_n, h_name, h_conf, g_changes, h_id, g_vec, h_k, h_width, h_filter, h_num, h_page, g_bytes, h_version, g_names, g_items, g_hits⟩
end Go.Proofs.Ytnlibeaainbipaa.M
namespace Go.Proofs.Ytnlibeaainbipaa.V
theorem Msg.ext' {x y : Msg} (h_kind : x.kind = y.kind) (h_req : x.req = y.req) (h_caps : x.caps = y.caps) (h_token : x.token = y.token) (h_code : x.code = y.code) (h_n : x.n = y.n) (h_name : x.name = y.name) (h_conf : x.conf = y.conf) (h_changes : x.changes = y.changes) (h_id : x.id = y.id) (h_vec : x.vec = y.vec) (h_k : x.k = y.k) (h_width : x.width = y.width) (h_filter : x.filter = y.filter) (h_num : x.num = y.num) (h_page : x.page = y.page) (h_bytes : x.bytes = y.bytes) (h_version : x.version = y.version) (h_names : x.names = y.names) (h_items : x.items = y.items) (h_hits : x.hits = y.hits) : x = y := by cases x; cases y; simp_all
theorem MConf.ext' {x y : MConf} (h1 : x.name = y.name) (h2 : x.dim = y.dim) (h3 : x.metric = y.metric) (h4 : x.graph = y.graph) (h5 : x.links = y.links) (h6 : x.width = y.width) : x = y := by cases x; cases y; simp_all
theorem MFilter.ext' {x y : MFilter} (h1 : x.all = y.all) (h2 : x.any = y.any) (h3 : x.none = y.none) : x = y := by cases x; cases y; simp_all
end Go.Proofs.Ytnlibeaainbipaa.V
namespace Go.Proofs.Ytnlibeaainbipaa.F
open Go.RowKit Go.Proofs.Ytnlibeaainbipaa.M Go.Proofs.Ytnlibeaainbipaa.V
set_option linter.unusedSimpArgs false
set_option linter.unusedVariables false
set_option maxRecDepth 20000
theorem foConf : Try.prog.fieldsOf 33 = #[⟨"Name", 9, 0, false, "", "", 0⟩, ⟨"Dim", 5, 1, false, "", "", 16⟩, ⟨"Metric", 30, 2, false, "", "", 17⟩, ⟨"Graph", 4, 3, false, "", "", 18⟩, ⟨"Links", 5, 4, false, "", "", 19⟩, ⟨"Width", 31, 5, false, "", "", 20⟩] := by kernel_rfl
theorem conf_run (w : World) (a b : MConf) : ∃ q, (Op.equalIn 10000 33 (.agg #[.string a.name, .int .u8 a.dim, .int .u8 a.metric, .bool a.graph, .int .u8 a.links, .int .u16 a.width]) (.agg #[.string b.name, .int .u8 b.dim, .int .u8 b.metric, .bool b.graph, .int .u8 b.links, .int .u16 b.width])).run Try.prog w = .ok q w ∧ (q = true ↔ a = b) := by
  have tl : ∀ {p q : ByteArray}, p.toList = q.toList ↔ p = q := fun {p q} => by rw [← str_ne, beq_iff_eq]
  have key : ∀ q : Bool, (q = true ↔ (a.name = b.name ∧ a.dim = b.dim ∧ a.metric = b.metric ∧ a.graph = b.graph ∧ a.links = b.links ∧ a.width = b.width)) → (q = true ↔ a = b) := fun q h => h.trans ⟨fun ⟨h1, h2, h3, h4, h5, h6⟩ => MConf.ext' h1 h2 h3 h4 h5 h6, fun h => by subst h; exact ⟨rfl, rfl, rfl, rfl, rfl, rfl⟩⟩
  refine ⟨a.name.toList == b.name.toList && (a.dim == b.dim && (a.metric == b.metric && (a.graph == b.graph && (a.links == b.links && a.width == b.width)))), ?_, key _ ?_⟩
  · rw [run_equalIn_struct w 9999 33 _ _ (by kernel_rfl) (by kernel_rfl), foConf]
    simp [go_sem, Op.eqFields]
    repeat' split
    all_goals simp_all
  · simp [tl]
theorem bin_conf {w : World} {x y : Operand} {k : Value → World → Prop} {a b : MConf} (hk : ∀ q : Bool, (q = true ↔ a = b) → k (.bool q) w) :
    binK Try.prog .eql 33 x y (.agg #[.string a.name, .int .u8 a.dim, .int .u8 a.metric, .bool a.graph, .int .u8 a.links, .int .u16 a.width]) (.agg #[.string b.name, .int .u8 b.dim, .int .u8 b.metric, .bool b.graph, .int .u8 b.links, .int .u16 b.width]) w k := by
  obtain ⟨q, h1, h2⟩ := conf_run w a b
  refine runK_of (v := .bool q) (w' := w) ?_ (hk q h2)
  rw [Sem.run_bind, run_eqGuard_agg w _ _ _ _ _ _ (by kernel_rfl)]
  simp only [Result.andThen]
  rw [run_eql_struct, h1]
  rfl
theorem empty_calls {U : Nat → Prop} {w : World} {x : Msg} {cs : List Value} (h : kMsg.rep U w x cs) : callK Try.prog 29 #[.agg cs.toArray] w fun v w' => Says (x = zMsg x.kind) v ∧ Keep w w' := by
  refine callK_of Try.func29 c29 r29 (by exact Nat.le_of_ble_eq_true rfl) ?_
  rw [m29]
  obtain ⟨A_changes, c_changes, A_vec, c_vec, Aa, ca, Ab, cb, Ac, cc, A_bytes, c_bytes, A_names, c_names, A_items, c_items, A_hits, c_hits, rfl, _⟩ := kMsg_cases h
  have kA : Keep w (w.alloc (.cells #[.int .u8 x.kind, .int .u32 x.req, .int .u32 x.caps, .int .u64 x.token, .int .u8 x.code, .int .u32 x.n, .string x.name, .string x.conf.name, .int .u8 x.conf.dim, .int .u8 x.conf.metric, .bool x.conf.graph, .int .u8 x.conf.links, .int .u16 x.conf.width, .slice A_changes x.changes.length c_changes, .int .u32 x.id, .slice A_vec x.vec.length c_vec, .int .u16 x.k, .int .u16 x.width, .slice Aa x.filter.all.length ca, .slice Ab x.filter.any.length cb, .slice Ac x.filter.none.length cc, .int .u32 x.num, .int .u32 x.page, .slice A_bytes x.bytes.length c_bytes, .int .u64 x.version, .slice A_names x.names.length c_names, .slice A_items x.items.length c_items, .slice A_hits x.hits.length c_hits] 42)) := Fx.alloc _ w _
  have hb : Blk _ _ _ _ := Blk.new w 42 #[.int .u8 x.kind, .int .u32 x.req, .int .u32 x.caps, .int .u64 x.token, .int .u8 x.code, .int .u32 x.n, .string x.name, .string x.conf.name, .int .u8 x.conf.dim, .int .u8 x.conf.metric, .bool x.conf.graph, .int .u8 x.conf.links, .int .u16 x.conf.width, .slice A_changes x.changes.length c_changes, .int .u32 x.id, .slice A_vec x.vec.length c_vec, .int .u16 x.k, .int .u16 x.width, .slice Aa x.filter.all.length ca, .slice Ab x.filter.any.length cb, .slice Ac x.filter.none.length cc, .int .u32 x.num, .int .u32 x.page, .slice A_bytes x.bytes.length c_bytes, .int .u64 x.version, .slice A_names x.names.length c_names, .slice A_items x.items.length c_items, .slice A_hits x.hits.length c_hits]
  obtain ⟨q_req, z_req, t_req⟩ : ∃ q, (x.req == 0) = q ∧ (q = true ↔ x.req = 0) := ⟨_, rfl, by exact beq_iff_eq⟩
  obtain ⟨q_caps, z_caps, t_caps⟩ : ∃ q, (x.caps == 0) = q ∧ (q = true ↔ x.caps = 0) := ⟨_, rfl, by exact beq_iff_eq⟩
  obtain ⟨q_token, z_token, t_token⟩ : ∃ q, (x.token == 0) = q ∧ (q = true ↔ x.token = 0) := ⟨_, rfl, by exact beq_iff_eq⟩
  obtain ⟨q_code, z_code, t_code⟩ : ∃ q, (x.code == 0) = q ∧ (q = true ↔ x.code = 0) := ⟨_, rfl, by exact beq_iff_eq⟩
  obtain ⟨q_n, z_n, t_n⟩ : ∃ q, (x.n == 0) = q ∧ (q = true ↔ x.n = 0) := ⟨_, rfl, by exact beq_iff_eq⟩
  obtain ⟨q_name, z_name, t_name⟩ : ∃ q, (x.name.toList == (⟨#[]⟩ : ByteArray).toList) = q ∧ (q = true ↔ x.name = ⟨#[]⟩) := ⟨_, rfl, by exact str_ne⟩
  obtain ⟨q_changes, z_changes, t_changes⟩ : ∃ q, ((x.changes.length : Int) == 0) = q ∧ (q = true ↔ x.changes = []) := ⟨_, rfl, by rw [beq_iff_eq]; exact ⟨fun h => List.eq_nil_of_length_eq_zero (by omega), fun h => by rw [h]; rfl⟩⟩
  obtain ⟨q_id, z_id, t_id⟩ : ∃ q, (x.id == 0) = q ∧ (q = true ↔ x.id = 0) := ⟨_, rfl, by exact beq_iff_eq⟩
  obtain ⟨q_vec, z_vec, t_vec⟩ : ∃ q, ((x.vec.length : Int) == 0) = q ∧ (q = true ↔ x.vec = []) := ⟨_, rfl, by rw [beq_iff_eq]; exact ⟨fun h => List.eq_nil_of_length_eq_zero (by omega), fun h => by rw [h]; rfl⟩⟩
  obtain ⟨q_k, z_k, t_k⟩ : ∃ q, (x.k == 0) = q ∧ (q = true ↔ x.k = 0) := ⟨_, rfl, by exact beq_iff_eq⟩
  obtain ⟨q_width, z_width, t_width⟩ : ∃ q, (x.width == 0) = q ∧ (q = true ↔ x.width = 0) := ⟨_, rfl, by exact beq_iff_eq⟩
  obtain ⟨q_fall, z_fall, t_fall⟩ : ∃ q, ((x.filter.all.length : Int) == 0) = q ∧ (q = true ↔ x.filter.all = []) := ⟨_, rfl, by rw [beq_iff_eq]; exact ⟨fun h => List.eq_nil_of_length_eq_zero (by omega), fun h => by rw [h]; rfl⟩⟩
  obtain ⟨q_fany, z_fany, t_fany⟩ : ∃ q, ((x.filter.any.length : Int) == 0) = q ∧ (q = true ↔ x.filter.any = []) := ⟨_, rfl, by rw [beq_iff_eq]; exact ⟨fun h => List.eq_nil_of_length_eq_zero (by omega), fun h => by rw [h]; rfl⟩⟩
  obtain ⟨q_fnone, z_fnone, t_fnone⟩ : ∃ q, ((x.filter.none.length : Int) == 0) = q ∧ (q = true ↔ x.filter.none = []) := ⟨_, rfl, by rw [beq_iff_eq]; exact ⟨fun h => List.eq_nil_of_length_eq_zero (by omega), fun h => by rw [h]; rfl⟩⟩
  obtain ⟨q_num, z_num, t_num⟩ : ∃ q, (x.num == 0) = q ∧ (q = true ↔ x.num = 0) := ⟨_, rfl, by exact beq_iff_eq⟩
  obtain ⟨q_page, z_page, t_page⟩ : ∃ q, (x.page == 0) = q ∧ (q = true ↔ x.page = 0) := ⟨_, rfl, by exact beq_iff_eq⟩
  obtain ⟨q_bytes, z_bytes, t_bytes⟩ : ∃ q, ((x.bytes.length : Int) == 0) = q ∧ (q = true ↔ x.bytes = []) := ⟨_, rfl, by rw [beq_iff_eq]; exact ⟨fun h => List.eq_nil_of_length_eq_zero (by omega), fun h => by rw [h]; rfl⟩⟩
  obtain ⟨q_version, z_version, t_version⟩ : ∃ q, (x.version == 0) = q ∧ (q = true ↔ x.version = 0) := ⟨_, rfl, by exact beq_iff_eq⟩
  obtain ⟨q_names, z_names, t_names⟩ : ∃ q, ((x.names.length : Int) == 0) = q ∧ (q = true ↔ x.names = []) := ⟨_, rfl, by rw [beq_iff_eq]; exact ⟨fun h => List.eq_nil_of_length_eq_zero (by omega), fun h => by rw [h]; rfl⟩⟩
  obtain ⟨q_items, z_items, t_items⟩ : ∃ q, ((x.items.length : Int) == 0) = q ∧ (q = true ↔ x.items = []) := ⟨_, rfl, by rw [beq_iff_eq]; exact ⟨fun h => List.eq_nil_of_length_eq_zero (by omega), fun h => by rw [h]; rfl⟩⟩
  obtain ⟨q_hits, z_hits, t_hits⟩ : ∃ q, ((x.hits.length : Int) == 0) = q ∧ (q = true ↔ x.hits = []) := ⟨_, rfl, by rw [beq_iff_eq]; exact ⟨fun h => List.eq_nil_of_length_eq_zero (by omega), fun h => by rw [h]; rfl⟩⟩
  have hld := ldV_agg (P := Try.prog) (w := w.alloc (.cells #[.int .u8 x.kind, .int .u32 x.req, .int .u32 x.caps, .int .u64 x.token, .int .u8 x.code, .int .u32 x.n, .string x.name, .string x.conf.name, .int .u8 x.conf.dim, .int .u8 x.conf.metric, .bool x.conf.graph, .int .u8 x.conf.links, .int .u16 x.conf.width, .slice A_changes x.changes.length c_changes, .int .u32 x.id, .slice A_vec x.vec.length c_vec, .int .u16 x.k, .int .u16 x.width, .slice Aa x.filter.all.length ca, .slice Ab x.filter.any.length cb, .slice Ac x.filter.none.length cc, .int .u32 x.num, .int .u32 x.page, .slice A_bytes x.bytes.length c_bytes, .int .u64 x.version, .slice A_names x.names.length c_names, .slice A_items x.items.length c_items, .slice A_hits x.hits.length c_hits] 42)) sh33 (cs := [.string x.conf.name, .int .u8 x.conf.dim, .int .u8 x.conf.metric, .bool x.conf.graph, .int .u8 x.conf.links, .int .u16 x.conf.width]) rfl (ad := At w.heap.size 7) (cells_in hb 7 6)
  have hbc := hb.cell
  simp -implicitDefEqProofs only [go_sem, seval]
  generalize w.alloc (.cells #[.int .u8 x.kind, .int .u32 x.req, .int .u32 x.caps, .int .u64 x.token, .int .u8 x.code, .int .u32 x.n, .string x.name, .string x.conf.name, .int .u8 x.conf.dim, .int .u8 x.conf.metric, .bool x.conf.graph, .int .u8 x.conf.links, .int .u16 x.conf.width, .slice A_changes x.changes.length c_changes, .int .u32 x.id, .slice A_vec x.vec.length c_vec, .int .u16 x.k, .int .u16 x.width, .slice Aa x.filter.all.length ca, .slice Ab x.filter.any.length cb, .slice Ac x.filter.none.length cc, .int .u32 x.num, .int .u32 x.page, .slice A_bytes x.bytes.length c_bytes, .int .u64 x.version, .slice A_names x.names.length c_names, .slice A_items x.items.length c_items, .slice A_hits x.hits.length c_hits] 42) = w1 at *
  cases q_req with
  | false =>
    simp -implicitDefEqProofs only [go_sem, seval, hbc, hld, z_req]
    exact ⟨says_false fun e => (by cases t_req.2 (by rw [e]; rfl)), kA⟩
  | true =>
  cases q_caps with
  | false =>
    simp -implicitDefEqProofs only [go_sem, seval, hbc, hld, z_req, z_caps]
    exact ⟨says_false fun e => (by cases t_caps.2 (by rw [e]; rfl)), kA⟩
  | true =>
  cases q_token with
  | false =>
    simp -implicitDefEqProofs only [go_sem, seval, hbc, hld, z_req, z_caps, z_token]
    exact ⟨says_false fun e => (by cases t_token.2 (by rw [e]; rfl)), kA⟩
  | true =>
  cases q_code with
  | false =>
    simp -implicitDefEqProofs only [go_sem, seval, hbc, hld, z_req, z_caps, z_token, z_code]
    exact ⟨says_false fun e => (by cases t_code.2 (by rw [e]; rfl)), kA⟩
  | true =>
  cases q_n with
  | false =>
    simp -implicitDefEqProofs only [go_sem, seval, hbc, hld, z_req, z_caps, z_token, z_code, z_n]
    exact ⟨says_false fun e => (by cases t_n.2 (by rw [e]; rfl)), kA⟩
  | true =>
  cases q_name with
  | false =>
    simp -implicitDefEqProofs only [go_sem, seval, hbc, hld, z_req, z_caps, z_token, z_code, z_n, z_name]
    exact ⟨says_false fun e => (by cases t_name.2 (by rw [e]; rfl)), kA⟩
  | true =>
  simp -implicitDefEqProofs only [go_sem, seval, hbc, hld, z_req, z_caps, z_token, z_code, z_n, z_name]
  refine bin_conf (a := x.conf) (b := zConf) fun q_conf t_conf => ?_
  cases q_conf with
  | false =>
    simp -implicitDefEqProofs only [go_sem, seval]
    exact ⟨says_false fun e => (by cases t_conf.2 (by rw [e]; rfl)), kA⟩
  | true =>
  cases q_changes with
  | false =>
    simp -implicitDefEqProofs only [go_sem, seval, hbc, hld, z_req, z_caps, z_token, z_code, z_n, z_name, z_changes]
    exact ⟨says_false fun e => (by cases t_changes.2 (by rw [e]; rfl)), kA⟩
  | true =>
  cases q_id with
  | false =>
    simp -implicitDefEqProofs only [go_sem, seval, hbc, hld, z_req, z_caps, z_token, z_code, z_n, z_name, z_changes, z_id]
    exact ⟨says_false fun e => (by cases t_id.2 (by rw [e]; rfl)), kA⟩
  | true =>
  cases q_vec with
  | false =>
    simp -implicitDefEqProofs only [go_sem, seval, hbc, hld, z_req, z_caps, z_token, z_code, z_n, z_name, z_changes, z_id, z_vec]
    exact ⟨says_false fun e => (by cases t_vec.2 (by rw [e]; rfl)), kA⟩
  | true =>
  cases q_k with
  | false =>
    simp -implicitDefEqProofs only [go_sem, seval, hbc, hld, z_req, z_caps, z_token, z_code, z_n, z_name, z_changes, z_id, z_vec, z_k]
    exact ⟨says_false fun e => (by cases t_k.2 (by rw [e]; rfl)), kA⟩
  | true =>
  cases q_width with
  | false =>
    simp -implicitDefEqProofs only [go_sem, seval, hbc, hld, z_req, z_caps, z_token, z_code, z_n, z_name, z_changes, z_id, z_vec, z_k, z_width]
    exact ⟨says_false fun e => (by cases t_width.2 (by rw [e]; rfl)), kA⟩
  | true =>
  cases q_fall with
  | false =>
    simp -implicitDefEqProofs only [go_sem, seval, hbc, hld, z_req, z_caps, z_token, z_code, z_n, z_name, z_changes, z_id, z_vec, z_k, z_width, z_fall]
    exact ⟨says_false fun e => (by cases t_fall.2 (by rw [e]; rfl)), kA⟩
  | true =>
  cases q_fany with
  | false =>
    simp -implicitDefEqProofs only [go_sem, seval, hbc, hld, z_req, z_caps, z_token, z_code, z_n, z_name, z_changes, z_id, z_vec, z_k, z_width, z_fall, z_fany]
    exact ⟨says_false fun e => (by cases t_fany.2 (by rw [e]; rfl)), kA⟩
  | true =>
  cases q_fnone with
  | false =>
    simp -implicitDefEqProofs only [go_sem, seval, hbc, hld, z_req, z_caps, z_token, z_code, z_n, z_name, z_changes, z_id, z_vec, z_k, z_width, z_fall, z_fany, z_fnone]
    exact ⟨says_false fun e => (by cases t_fnone.2 (by rw [e]; rfl)), kA⟩
  | true =>
  cases q_num with
  | false =>
    simp -implicitDefEqProofs only [go_sem, seval, hbc, hld, z_req, z_caps, z_token, z_code, z_n, z_name, z_changes, z_id, z_vec, z_k, z_width, z_fall, z_fany, z_fnone, z_num]
    exact ⟨says_false fun e => (by cases t_num.2 (by rw [e]; rfl)), kA⟩
  | true =>
  cases q_page with
  | false =>
    simp -implicitDefEqProofs only [go_sem, seval, hbc, hld, z_req, z_caps, z_token, z_code, z_n, z_name, z_changes, z_id, z_vec, z_k, z_width, z_fall, z_fany, z_fnone, z_num, z_page]
    exact ⟨says_false fun e => (by cases t_page.2 (by rw [e]; rfl)), kA⟩
  | true =>
  cases q_bytes with
  | false =>
    simp -implicitDefEqProofs only [go_sem, seval, hbc, hld, z_req, z_caps, z_token, z_code, z_n, z_name, z_changes, z_id, z_vec, z_k, z_width, z_fall, z_fany, z_fnone, z_num, z_page, z_bytes]
    exact ⟨says_false fun e => (by cases t_bytes.2 (by rw [e]; rfl)), kA⟩
  | true =>
  cases q_version with
  | false =>
    simp -implicitDefEqProofs only [go_sem, seval, hbc, hld, z_req, z_caps, z_token, z_code, z_n, z_name, z_changes, z_id, z_vec, z_k, z_width, z_fall, z_fany, z_fnone, z_num, z_page, z_bytes, z_version]
    exact ⟨says_false fun e => (by cases t_version.2 (by rw [e]; rfl)), kA⟩
  | true =>
  cases q_names with
  | false =>
    simp -implicitDefEqProofs only [go_sem, seval, hbc, hld, z_req, z_caps, z_token, z_code, z_n, z_name, z_changes, z_id, z_vec, z_k, z_width, z_fall, z_fany, z_fnone, z_num, z_page, z_bytes, z_version, z_names]
    exact ⟨says_false fun e => (by cases t_names.2 (by rw [e]; rfl)), kA⟩
  | true =>
  cases q_items with
  | false =>
    simp -implicitDefEqProofs only [go_sem, seval, hbc, hld, z_req, z_caps, z_token, z_code, z_n, z_name, z_changes, z_id, z_vec, z_k, z_width, z_fall, z_fany, z_fnone, z_num, z_page, z_bytes, z_version, z_names, z_items]
    exact ⟨says_false fun e => (by cases t_items.2 (by rw [e]; rfl)), kA⟩
  | true =>
  cases q_hits with
  | false =>
    simp -implicitDefEqProofs only [go_sem, seval, hbc, hld, z_req, z_caps, z_token, z_code, z_n, z_name, z_changes, z_id, z_vec, z_k, z_width, z_fall, z_fany, z_fnone, z_num, z_page, z_bytes, z_version, z_names, z_items, z_hits]
    exact ⟨says_false fun e => (by cases t_hits.2 (by rw [e]; rfl)), kA⟩
  | true =>
  simp -implicitDefEqProofs only [go_sem, seval, hbc, hld, z_req, z_caps, z_token, z_code, z_n, z_name, z_changes, z_id, z_vec, z_k, z_width, z_fall, z_fany, z_fnone, z_num, z_page, z_bytes, z_version, z_names, z_items, z_hits]
  refine ⟨says_true ?_, kA⟩
  exact Msg.ext' rfl (t_req.1 rfl) (t_caps.1 rfl) (t_token.1 rfl) (t_code.1 rfl) (t_n.1 rfl) (t_name.1 rfl) (t_conf.1 rfl) (t_changes.1 rfl) (t_id.1 rfl) (t_vec.1 rfl) (t_k.1 rfl) (t_width.1 rfl) (MFilter.ext' (t_fall.1 rfl) (t_fany.1 rfl) (t_fnone.1 rfl)) (t_num.1 rfl) (t_page.1 rfl) (t_bytes.1 rfl) (t_version.1 rfl) (t_names.1 rfl) (t_items.1 rfl) (t_hits.1 rfl)
end Go.Proofs.Ytnlibeaainbipaa.F
