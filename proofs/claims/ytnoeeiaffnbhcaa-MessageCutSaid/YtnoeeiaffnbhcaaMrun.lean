/- The rules by which a walk over slots as a function runs: each is an equation. Conditions: none beyond those that each names. -/
import Derived.Test.YtnoeeiaffnbhcaaMcode
namespace Go.Proofs.Ytnoeeiaffnbhcaa.M
variable {P : Program}

/-- What follows an operation, as data. -/
def goK (P : Program) (K : Fr → World → Prop) (r : List MI) (d : Option Nat) (f : Fr) : Value → World → Prop := fun v w' => RL P K r (updo f d v) w'
@[go_sem] theorem goK_some (K : Fr → World → Prop) (r : List MI) (d : Nat) (f : Fr) (v : Value) (w : World) : goK P K r (some d) f v w = RL P K r (upd f d v) w := rfl
@[go_sem] theorem goK_none (K : Fr → World → Prop) (r : List MI) (f : Fr) (v : Value) (w : World) : goK P K r none f v w = RL P K r f w := rfl
def gdS (v : Value) (b : Bool) (P : Program) (K : Fr → World → Prop) (d : Option Nat) (op : Op) (ty : TypeId) (r : List MI) (f : Fr) (w : World) : Prop :=
  if (match v with
    | .bool c => c == b
    | _ => false) = true then stepK P op ty f w (goK P K r d f) else RL P K r (updo f d undef) w
section
variable (K : Fr → World → Prop) (d : Option Nat) (op : Op) (ty : TypeId) (r : List MI) (f : Fr) (w : World)
@[go_sem] theorem gdS_tt : gdS (.bool true) true P K d op ty r f w = stepK P op ty f w (goK P K r d f) := rfl
@[go_sem] theorem gdS_ff : gdS (.bool false) false P K d op ty r f w = stepK P op ty f w (goK P K r d f) := rfl
@[go_sem] theorem gdS_tf (d : Nat) : gdS (.bool true) false P K (some d) op ty r f w = RL P K r (upd f d undef) w := rfl
@[go_sem] theorem gdS_ft (d : Nat) : gdS (.bool false) true P K (some d) op ty r f w = RL P K r (upd f d undef) w := rfl
end
def condS (v : Value) (P : Program) (x y : MC) (Q : Exit → Fr → World → Prop) (f : Fr) (w : World) : Prop := match v with
  | .bool true => WM P x Q f w
  | .bool false => WM P y Q f w
  | _ => False
@[go_sem] theorem condS_true (x y : MC) (Q : Exit → Fr → World → Prop) (f : Fr) (w : World) : condS (.bool true) P x y Q f w = WM P x Q f w := rfl
@[go_sem] theorem condS_false (x y : MC) (Q : Exit → Fr → World → Prop) (f : Fr) (w : World) : condS (.bool false) P x y Q f w = WM P y Q f w := rfl
theorem condS_split {b : Bool} {x y : MC} {Q : Exit → Fr → World → Prop} {f : Fr} {w : World} (h1 : b = true → WM P x Q f w) (h0 : b = false → WM P y Q f w) : condS (.bool b) P x y Q f w := by
  cases b
  · exact h0 rfl
  · exact h1 rfl

attribute [go_sem] upd_at ev_tmp ev_const ev_func optW_some stW_some retS_some pickW_bool

section
variable {K : Fr → World → Prop} {Q : Exit → Fr → World → Prop} {f : Fr} {w : World} {k : Value → World → Prop} {ty : TypeId}
@[go_sem ↓] theorem RL_nil : RL P K [] f w = K f w := rfl
@[go_sem] theorem RL_cons (d : Option Nat) (op : Op) (ty : TypeId) (r : List MI) : RL P K (⟨d, none, op, ty⟩ :: r) f w = stepK P op ty f w (goK P K r d f) := rfl
@[go_sem] theorem RL_guard (d : Option Nat) (s : Nat) (b : Bool) (op : Op) (ty : TypeId) (r : List MI) : RL P K (⟨d, some (s, b), op, ty⟩ :: r) f w = gdS (f s) b P K d op ty r f w := rfl
@[go_sem ↓] theorem stepK_move (x : Operand) : stepK P (.move x) ty f w k = k (ev f x) w := rfl
@[go_sem ↓] theorem stepK_assign (x : Operand) : stepK P (.assign x) ty f w k = k (ev f x) w := rfl
@[go_sem ↓] theorem stepK_pick (c a b : Operand) : stepK P (.pick c a b) ty f w k = pickW (ev f c) (ev f a) (ev f b) k w := rfl
@[go_sem ↓] theorem stepK_nil (x : Operand) : stepK P (.nilCheck x) ty f w k = optW (nilV (ev f x)) k w := rfl
@[go_sem ↓] theorem stepK_bin (op : BinOp) (t : TypeId) (x y : Operand) (yt : TypeId) : stepK P (.binOp op t x y yt) ty f w k = binK P op t x y (ev f x) (ev f y) w k := rfl
@[go_sem ↓] theorem stepK_un (op : UnOp) (t : TypeId) (x : Operand) : stepK P (.unOp op t x) ty f w k = optW (unV op (ev f x)) k w := rfl
@[go_sem ↓] theorem stepK_conv (s t : TypeId) (x : Operand) : stepK P (.convert s t x) ty f w k = cvK P s t (ev f x) w k := rfl
@[go_sem ↓] theorem stepK_ext (x : Operand) (i : Nat) : stepK P (.extract x i) ty f w k = optW (extV i (ev f x)) k w := rfl
@[go_sem ↓] theorem stepK_fld (s : TypeId) (x : Operand) (i : Nat) : stepK P (.fieldAddr s x i) ty f w k = optW (fldV P s i (ev f x)) k w := rfl
@[go_sem ↓] theorem stepK_ixa (t : TypeId) (x i : Operand) : stepK P (.indexAddr t x i) ty f w k = optW (ixaV P t (ev f x) (ev f i)) k w := rfl
@[go_sem ↓] theorem stepK_slc (t : TypeId) (x : Operand) (lo hi mx : Option Operand) : stepK P (.slice t x lo hi mx) ty f w k = slcK P t (ev f x) (lo.map (ev f)) (hi.map (ev f)) (mx.map (ev f)) w k := rfl
@[go_sem ↓] theorem stepK_load (t : TypeId) (x : Operand) : stepK P (.load t x) ty f w k = optW (ldV P w t (ev f x)) k w := rfl
@[go_sem ↓] theorem stepK_store (t : TypeId) (x y : Operand) : stepK P (.store t x y) ty f w k = stW (stV P w t (ev f x) (ev f y)) k := rfl
@[go_sem ↓] theorem stepK_box (t : TypeId) (x : Operand) : stepK P (.box t x) ty f w k = boxK t (ev f x) w k := rfl
@[go_sem ↓] theorem stepK_mkf (fn : Fn) (a b : Array Operand) : stepK P (.makeFunc fn a b) ty f w k = k (Value.func fn (a.map (ev f)) (b.map (ev f))) w := rfl
@[go_sem ↓] theorem stepK_call (g : Nat) (args : Array Operand) (ats : Array TypeId) : stepK P (.call { callee := .value (.func g), args := args, argTypes := ats }) ty f w k = callK P g (args.map (ev f)) w k := rfl
@[go_sem ↓] theorem stepK_callv (t : Nat) (args : Array Operand) (ats : Array TypeId) : stepK P (.call { callee := .value (.tmp t), args := args, argTypes := ats }) ty f w k = fnK P (f t) (args.map (ev f)) w k := rfl
@[go_sem ↓] theorem stepK_len (args : Array Operand) (ats : Array TypeId) : stepK P (.call { callee := .builtin .len, args := args, argTypes := ats }) ty f w k = lenW P (lenA P ats (args.map (ev f))) ats ty (args.map (ev f)) w k := rfl
@[go_sem] theorem lenW_some (v : Value) (ats : Array TypeId) (args : Array Value) : lenW P (some v) ats ty args w k = k v w := rfl
@[go_sem] theorem lenW_none (ats : Array TypeId) (args : Array Value) : lenW P none ats ty args w k = runK P (Builtin.len_ ats ty args) w k := rfl
@[go_sem ↓] theorem stepK_app (args : Array Operand) (ats : Array TypeId) : stepK P (.call { callee := .builtin .append, args := args, argTypes := ats }) ty f w k = appK P ats ty (args.map (ev f)) w k := rfl
@[go_sem ↓] theorem stepK_bsl (t : TypeId) (n : Nat) (ps : Array (Nat × Operand)) : stepK P (.buildSlice t n ps) ty f w k = bslK P t n (ps.map fun p => (p.1, ev f p.2)) w k := rfl
@[go_sem ↓] theorem stepK_bld (t : TypeId) (ps : Array (Nat × Operand)) : stepK P (.build t ps) ty f w k = bldK P t (ps.map fun p => (p.1, ev f p.2)) w k := rfl
@[go_sem ↓] theorem stepK_alloc (t : TypeId) : stepK P (.alloc t) ty f w k = runK P (Instr.alloc t true (.tuple #[])) w k := rfl
@[go_sem ↓] theorem stepK_field (t : TypeId) (x : Operand) (i : Nat) : stepK P (.field t x i) ty f w k = runK P (Instr.field t (ev f x) i) w k := rfl
@[go_sem ↓] theorem stepK_index (t : TypeId) (x i : Operand) : stepK P (.index t x i) ty f w k = runK P (Instr.index t (ev f x) (ev f i)) w k := rfl
@[go_sem ↓] theorem stepK_makeSlice (t : TypeId) (x y : Operand) : stepK P (.makeSlice t x y) ty f w k = runK P (Instr.makeSlice t (ev f x) (ev f y)) w k := rfl
@[go_sem ↓] theorem stepK_makeMap (t : TypeId) (r : Option Operand) : stepK P (.makeMap t r) ty f w k = runK P (Instr.makeMap t (r.map (ev f))) w k := rfl
@[go_sem ↓] theorem stepK_lookup (t : TypeId) (x i : Operand) (ok : Bool) : stepK P (.lookup t x i ok) ty f w k = runK P (Instr.lookup t (ev f x) (ev f i) ok) w k := rfl
@[go_sem ↓] theorem stepK_mapUpdate (t : TypeId) (m i x : Operand) : stepK P (.mapUpdate t m i x) ty f w k = runU P (Instr.mapUpdate t (ev f m) (ev f i) (ev f x)) w k := rfl
@[go_sem ↓] theorem stepK_range (t : TypeId) (x : Operand) : stepK P (.range t x) ty f w k = runK P (Instr.range t (ev f x)) w k := rfl
@[go_sem ↓] theorem stepK_next (x : Operand) (b : Bool) : stepK P (.next x b) ty f w k = runK P (Instr.next (ev f x) b ty) w k := rfl
@[go_sem ↓] theorem stepK_copy (args : Array Operand) (ats : Array TypeId) : stepK P (.call { callee := .builtin .copy, args := args, argTypes := ats }) ty f w k = runK P (Builtin.copy_ ats ty (args.map (ev f))) w k := rfl
@[go_sem ↓] theorem stepK_delete (args : Array Operand) (ats : Array TypeId) : stepK P (.call { callee := .builtin .delete, args := args, argTypes := ats }) ty f w k = runK P (Builtin.delete_ ats ty (args.map (ev f))) w k := rfl
@[go_sem ↓] theorem WM_skip : WM P .skip Q f w = Q .normal f w := rfl
@[go_sem ↓] theorem WM_ret : WM P .ret Q f w = Q .ret f w := rfl
@[go_sem ↓] theorem WM_exit (i : Nat) : WM P (.exit i) Q f w = Q (.exit i) f w := rfl
@[go_sem ↓] theorem WM_reg (l : List MI) : WM P (.reg l) Q f w = RL P (Q .normal) l f w := rfl
@[go_sem ↓] theorem WM_seq (x y : MC) : WM P (.seq x y) Q f w = WM P x (thenQ (WM P y Q) Q) f w := rfl
@[go_sem ↓] theorem WM_cond (c : Operand) (x y : MC) : WM P (.cond c x y) Q f w = condS (ev f c) P x y Q f w := rfl
@[go_sem ↓] theorem WM_blk (id : Nat) (c : MC) : WM P (.blk id c) Q f w = WM P c (blkQ id Q) f w := rfl
@[go_sem ↓] theorem thenQ_normal : thenQ K Q .normal f w = K f w := rfl
@[go_sem ↓] theorem thenQ_ret : thenQ K Q .ret f w = Q .ret f w := rfl
@[go_sem ↓] theorem thenQ_exit (i : Nat) : thenQ K Q (.exit i) f w = Q (.exit i) f w := rfl
@[go_sem ↓] theorem blkQ_normal (id : Nat) : blkQ id Q .normal f w = Q .normal f w := rfl
@[go_sem ↓] theorem blkQ_ret (id : Nat) : blkQ id Q .ret f w = Q .ret f w := rfl
@[go_sem ↓] theorem blkQ_exit (id i : Nat) : blkQ id Q (.exit i) f w = if i = id then Q .normal f w else Q (.exit i) f w := rfl
end

/-- A round has come nearer to the loop's end. -/
def decQ (I : Nat → Fr → World → Prop) (n : Nat) : Fr → World → Prop := fun f w => ∃ n', n' < n ∧ I n' f w
theorem loop_intro {c : MC} {Q : Exit → Fr → World → Prop} {f : Fr} {w : World} (I : Nat → Fr → World → Prop) (n : Nat) (h0 : I n f w) (h : ∀ n f w, I n f w → WM P c (thenQ (decQ I n) Q) f w) : WM P (.loop c) Q f w := ⟨I, n, h0, h⟩
@[go_sem] theorem min7 : min 7 64 = 7 := rfl
@[go_sem] theorem min1 : min 1 64 = 1 := rfl
@[go_sem] theorem min1_32 : min 1 32 = 1 := rfl
@[go_sem] theorem min8_32 : min 8 32 = 8 := rfl
@[go_sem] theorem min63 : min 63 64 = 63 := rfl

@[go_sem] theorem argF_0 (a : Value) (l : List Value) : argF (a :: l).toArray 0 = a := rfl
@[go_sem] theorem argF_1 (a b : Value) (l : List Value) : argF (a :: b :: l).toArray 1 = b := rfl
@[go_sem] theorem argF_2 (a b c : Value) (l : List Value) : argF (a :: b :: c :: l).toArray 2 = c := rfl
@[go_sem] theorem argF_3 (a b c d : Value) (l : List Value) : argF (a :: b :: c :: d :: l).toArray 3 = d := rfl
@[go_sem] theorem argF_4 (a b c d e : Value) (l : List Value) : argF (a :: b :: c :: d :: e :: l).toArray 4 = e := rfl

/-! ### values -/
@[go_sem] theorem nilV_ptr (a : Addr) : nilV (.pointer (some a)) = some (.pointer (some a)) := rfl
@[go_sem] theorem nilV_func (g : Nat) (x y : Array Value) : nilV (.func (.func g) x y) = some (.func (.func g) x y) := rfl
@[go_sem] theorem extV_tup (i : Nat) (vs : List Value) : extV i (.tuple vs.toArray) = vs[i]? := by simp [extV]
@[go_sem] theorem unV_not (b : Bool) : unV .not (.bool b) = some (.bool !b) := rfl
@[go_sem] theorem unV_xor32 (n : Int) : unV .xor (.int .u32 n) = some (.int .u32 (bits .xor .u32 4294967295 n)) := rfl
@[go_sem] theorem unV_neg (k : IntKind) (n : Int) : unV .neg (.int k n) = some (.int k (k.wrap (0 - n))) := rfl
section
variable (op : BinOp) (t : TypeId) (x y : Operand) (w : World) (k : Value → World → Prop) (kk : IntKind) (a b : Int)
@[go_sem] theorem bin_add : binK P .add t x y (.int kk a) (.int kk b) w k = k (.int kk (kk.wrap (a + b))) w := by simp [binK, binV, binI]
@[go_sem] theorem bin_sub : binK P .sub t x y (.int kk a) (.int kk b) w k = k (.int kk (kk.wrap (a - b))) w := by simp [binK, binV, binI]
@[go_sem] theorem bin_mul : binK P .mul t x y (.int kk a) (.int kk b) w k = k (.int kk (kk.wrap (a * b))) w := by simp [binK, binV, binI]
@[go_sem] theorem bin_quo (h : ¬ b = 0) : binK P .quo t x y (.int kk a) (.int kk b) w k = k (.int kk (kk.wrap (a.tdiv b))) w := by simp [binK, binV, binI, h]
@[go_sem] theorem bin_rem (h : ¬ b = 0) : binK P .rem t x y (.int kk a) (.int kk b) w k = k (.int kk (a.tmod b)) w := by simp [binK, binV, binI, h]
@[go_sem] theorem bin_and : binK P .and t x y (.int kk a) (.int kk b) w k = k (.int kk (bits .and kk a b)) w := by simp [binK, binV, binI]
@[go_sem] theorem bin_or : binK P .or t x y (.int kk a) (.int kk b) w k = k (.int kk (bits .or kk a b)) w := by simp [binK, binV, binI]
@[go_sem] theorem bin_xor : binK P .xor t x y (.int kk a) (.int kk b) w k = k (.int kk (bits .xor kk a b)) w := by simp [binK, binV, binI]
@[go_sem] theorem bin_shl (k2 : IntKind) (h : ¬ b < 0) : binK P .shl t x y (.int kk a) (.int k2 b) w k = k (.int kk (kk.wrap (a * 2 ^ min b.toNat kk.bits))) w := by simp [binK, binV, h]
@[go_sem] theorem bin_shr (k2 : IntKind) (h : ¬ b < 0) : binK P .shr t x y (.int kk a) (.int k2 b) w k = k (.int kk (a / 2 ^ min b.toNat kk.bits)) w := by simp [binK, binV, h]
@[go_sem] theorem bin_eql : binK P .eql t x y (.int kk a) (.int kk b) w k = k (.bool (a == b)) w := by simp [binK, binV, binI, cmpI]
@[go_sem] theorem bin_neq : binK P .neq t x y (.int kk a) (.int kk b) w k = k (.bool (a != b)) w := by simp [binK, binV, binI, cmpI]
@[go_sem] theorem bin_lss : binK P .lss t x y (.int kk a) (.int kk b) w k = k (.bool (decide (a < b))) w := by simp [binK, binV, binI, cmpI]
@[go_sem] theorem bin_leq : binK P .leq t x y (.int kk a) (.int kk b) w k = k (.bool (decide (a ≤ b))) w := by simp [binK, binV, binI, cmpI]
@[go_sem] theorem bin_gtr : binK P .gtr t x y (.int kk a) (.int kk b) w k = k (.bool (decide (b < a))) w := by simp [binK, binV, binI, cmpI]
@[go_sem] theorem bin_geq : binK P .geq t x y (.int kk a) (.int kk b) w k = k (.bool (decide (b ≤ a))) w := by simp [binK, binV, binI, cmpI]
@[go_sem] theorem bin_beq (p q : Bool) (h : isBool P t = true) : binK P .eql t x y (.bool p) (.bool q) w k = k (.bool (p == q)) w := by simp [binK, binV, h]
@[go_sem] theorem bin_bne (p q : Bool) (h : isBool P t = true) : binK P .neq t x y (.bool p) (.bool q) w k = k (.bool (!(p == q))) w := by simp [binK, binV, h]
@[go_sem] theorem bin_seq (p q : ByteArray) : binK P .eql t x y (.string p) (.string q) w k = k (.bool (p.toList == q.toList)) w := rfl
@[go_sem] theorem bin_sne (p q : ByteArray) : binK P .neq t x y (.string p) (.string q) w k = k (.bool (!(p.toList == q.toList))) w := rfl
end
theorem shape_und {t : TypeId} {d : TypeDesc} (h : P.underlying t = some d) : ∃ d', P.underlying t = some d' := ⟨d, h⟩
section
variable {s t : TypeId} {w : World} {k : Value → World → Prop}
@[go_sem] theorem cv_int (kk k' : IntKind) (n : Int) (hs : (P.underlying s).isSome = true) (ht : P.underlying t = some (.int kk)) : cvK P s t (.int k' n) w k = k (.int kk (kk.wrap n)) w := by
  obtain ⟨d, hd⟩ := Option.isSome_iff_exists.1 hs
  simp [cvK, hd, ht]
@[go_sem] theorem cv_str (b : ByteArray) (hs : (P.underlying s).isSome = true) (ht : P.underlying t = some .string) : cvK P s t (.string b) w k = k (.string b) w := by
  obtain ⟨d, hd⟩ := Option.isSome_iff_exists.1 hs
  simp [cvK, hd, ht]
theorem fldV_ptr {i o : Nat} (a : Addr) (h : fOff P s i = some o) : fldV P s i (.pointer (some a)) = some (.pointer (some (a.add o))) := by simp [fldV, h]
theorem ixaV_slice {e : TypeId} {z : Nat} (a : Addr) (n c : Nat) (kk : IntKind) (i : Int) (ht : P.underlying t = some (.slice e)) (hz : sizeOf1 P e = some z) (h0 : 0 ≤ i) (h1 : i < n) :
    ixaV P t (.slice (some a) n c) (.int kk i) = some (.pointer (some (a.add (i.toNat * z)))) := by simp [ixaV, ht, hz, h0, h1]
theorem ixaV_array {e : TypeId} {z n : Nat} (a : Addr) (kk : IntKind) (i : Int) (ht : P.underlying t = some (.array n e)) (hz : sizeOf1 P e = some z) (h0 : 0 ≤ i) (h1 : i < n) :
    ixaV P t (.pointer (some a)) (.int kk i) = some (.pointer (some (a.add (i.toNat * z)))) := by simp [ixaV, ht, hz, h0, h1]
theorem ldV_one (a : Addr) (h : shapeOf P t = some none) : ldV P w t (.pointer (some a)) = w.cell? a := by simp [ldV, h]
theorem lenV_str (b : ByteArray) (h : P.underlying t = some .string) : lenV P t (.string b) = some (.int .i64 b.size) := by simp [lenV, h]
theorem lenV_slice {e : TypeId} (a : Option Addr) (n c : Nat) (h : P.underlying t = some (.slice e)) : lenV P t (.slice a n c) = some (.int .i64 n) := by simp [lenV, h]
end
@[go_sem] theorem lenA_one (t : TypeId) (x : Value) : lenA P #[t] #[x] = lenV P t x := rfl
@[go_sem] theorem resV_one (v : Value) : resV [v] = v := rfl
@[go_sem] theorem resV_nil : resV [] = .tuple #[] := rfl
@[go_sem] theorem resV_two (u v : Value) (r : List Value) : resV (u :: v :: r) = .tuple (u :: v :: r).toArray := rfl
section
variable {R : Ending → World → Prop} {f : Fr} {w : World}
@[go_sem] theorem retQ_ret (rs : List ResultVar) : retQ P rs.toArray R .ret f w = retS (resL P rs f w) R w := rfl
@[go_sem] theorem retQ_normal (rs : List ResultVar) : retQ P rs.toArray R .normal f w = retS (resL P rs f w) R w := rfl
@[go_sem] theorem retK_ret (R : Value → World → Prop) (rs : List ResultVar) : retK P rs.toArray R .ret f w = retV (resL P rs f w) R w := rfl
@[go_sem] theorem retK_normal (R : Value → World → Prop) (rs : List ResultVar) : retK P rs.toArray R .normal f w = retV (resL P rs f w) R w := rfl
@[go_sem] theorem retV_some (l : List Value) (R : Value → World → Prop) : retV (some l) R w = R (resV l) w := rfl
@[go_sem] theorem resL_nil : resL P [] f w = some [] := rfl
@[go_sem] theorem resL_one (t : Nat) : resL P [.tmp t] f w = some [f t] := rfl
@[go_sem] theorem resL_two (t u : Nat) : resL P [.tmp t, .tmp u] f w = some [f t, f u] := rfl
@[go_sem] theorem resL_three (t u v : Nat) : resL P [.tmp t, .tmp u, .tmp v] f w = some [f t, f u, f v] := rfl
end

/-! ### a region that draws its order -/
def pickV (c x y : Value) : Option Value := match c with
  | .bool d => some (if d = true then x else y)
  | _ => none
def goR (P : Program) (S : World → Prop) (K : Fr → World → Prop) (r : List (Nat × MI)) (d : Option Nat) (f : Fr) : Value → World → Prop := fun v w' => RD P S K r (updo f d v) w'
def goE (P : Program) (S : World → Prop) (K : Fr → World → Prop) (r : List (Nat × MI)) (d : Option Nat) (f : Fr) : Value → World → Prop := fun v w' => S w' ∧ (S w' → RD P S K r (updo f d v) w')
def isB (v : Value) (b : Bool) : Bool := match v with
  | .bool c => c == b
  | _ => false
def gdP (v : Value) (b : Bool) (P : Program) (S : World → Prop) (K : Fr → World → Prop) (d : Option Nat) (op : Op) (r : List (Nat × MI)) (f : Fr) (w : World) : Prop :=
  if isB v b = true then optW (pvOf P op f) (goR P S K r d f) w else RD P S K r (updo f d undef) w
def gdE (v : Value) (b : Bool) (P : Program) (S : World → Prop) (K : Fr → World → Prop) (d : Option Nat) (op : Op) (ty : TypeId) (r : List (Nat × MI)) (f : Fr) (w : World) : Prop :=
  if isB v b = true then stepK P op ty f w (goE P S K r d f) else S w ∧ RD P S K r (updo f d undef) w
def gdL (v : Value) (b : Bool) (P : Program) (S : World → Prop) (K : Fr → World → Prop) (d : Option Nat) (op : Op) (ty : TypeId) (r : List (Nat × MI)) (f : Fr) (w : World) : Prop :=
  if isB v b = true then stepK P op ty f w (goR P S K r d f) else RD P S K r (updo f d undef) w
def hldK (P : Program) (S : World → Prop) (K : Fr → World → Prop) (d : Option Nat) (op : Op) (ty : TypeId) (r : List (Nat × MI)) (f : Fr) (w : World) : Prop :=
  S w ∧ ∃ v, (∀ w', S w' → stepK P op ty f w' fun u w'' => u = v ∧ w'' = w') ∧ RD P S K r (updo f d v) w
def gdH (v : Value) (b : Bool) (P : Program) (S : World → Prop) (K : Fr → World → Prop) (d : Option Nat) (op : Op) (ty : TypeId) (r : List (Nat × MI)) (f : Fr) (w : World) : Prop :=
  if isB v b = true then hldK P S K d op ty r f w else S w ∧ RD P S K r (updo f d undef) w
section
variable {K : Fr → World → Prop} {S : World → Prop} {Q : Exit → Fr → World → Prop} {f : Fr} {w : World} {k : Value → World → Prop} {ty : TypeId}
@[go_sem ↓] theorem WM_drw (l : List (Bool × List (Nat × MI))) : WM P (.drw l) Q f w = RG P (Q .normal) l f w.drew := rfl
@[go_sem ↓] theorem WM_frk (l : List (Nat × MI)) (t : DT) : WM P (.frk l t) Q f w = frS P (Q .normal) l t f w.drew := rfl
@[go_sem ↓] theorem DTK_fin : DTK P S K .fin f w = K f w := rfl
@[go_sem ↓] theorem DTK_fork (m1 : MI) (l1 : List (Nat × MI)) (t1 : DT) (m2 : MI) (l2 : List (Nat × MI)) (t2 : DT) : DTK P S K (.fork m1 l1 t1 m2 l2 t2) f w = frkK P (shS S (RD P S (DTK P S K t1) l1)) (shS S (RD P S (DTK P S K t2) l2)) m1 m2 f w := rfl
theorem frk_intro {A B : Fr → World → Prop} {m1 m2 : MI} (h1 : RL P A [m1] f w) (h2 : RL P B [m2] f w) : frkK P A B m1 m2 f w := ⟨h1, h2⟩
theorem shs_intro {A : Fr → World → Prop} (h1 : S w) (h2 : A f w) : shS S A f w := ⟨h1, fun _ => h2⟩
theorem frs_intro {l : List (Nat × MI)} {t : DT} (S : World → Prop) (h0 : S w) (h : RD P S (DTK P S K t) l f w) : frS P K l t f w := ⟨S, h0, h⟩
@[go_sem ↓] theorem RG_nil : RG P K [] f w = K f w := rfl
@[go_sem ↓] theorem RG_free (l : List (Nat × MI)) (r : List (Bool × List (Nat × MI))) : RG P K ((false, l) :: r) f w = RD P TS (RG P K r) l f w := rfl
theorem seg_intro {l : List (Nat × MI)} {r : List (Bool × List (Nat × MI))} (S : World → Prop) (h0 : S w) (h : RD P S (RG P K r) l f w) : RG P K ((true, l) :: r) f w := ⟨S, h0, h⟩
@[go_sem ↓] theorem RD_nil : RD P S K [] f w = K f w := rfl
@[go_sem] theorem goR_some (r : List (Nat × MI)) (d : Nat) (v : Value) : goR P S K r (some d) f v w = RD P S K r (upd f d v) w := rfl
@[go_sem] theorem goR_none (r : List (Nat × MI)) (v : Value) : goR P S K r none f v w = RD P S K r f w := rfl
@[go_sem] theorem goE_some (r : List (Nat × MI)) (d : Nat) (v : Value) : goE P TS K r (some d) f v w = RD P TS K r (upd f d v) w := by simp [goE, TS, updo]
@[go_sem] theorem goE_none (r : List (Nat × MI)) (v : Value) : goE P TS K r none f v w = RD P TS K r f w := by simp [goE, TS, updo]
theorem goE_intro0 {r : List (Nat × MI)} {v : Value} (h0 : S w) (h : RD P S K r f w) : goE P S K r none f v w := ⟨h0, fun _ => h⟩
theorem goE_intro {r : List (Nat × MI)} {d : Nat} {v : Value} (h0 : S w) (h : RD P S K r (upd f d v) w) : goE P S K r (some d) f v w := ⟨h0, fun _ => h⟩
@[go_sem] theorem RD_p (d : Option Nat) (op : Op) (r : List (Nat × MI)) : RD P S K ((0, ⟨d, none, op, ty⟩) :: r) f w = optW (pvOf P op f) (goR P S K r d f) w := rfl
@[go_sem] theorem RD_pg (d : Option Nat) (s : Nat) (b : Bool) (op : Op) (r : List (Nat × MI)) : RD P S K ((0, ⟨d, some (s, b), op, ty⟩) :: r) f w = gdP (f s) b P S K d op r f w := rfl
@[go_sem] theorem RD_e (d : Option Nat) (op : Op) (r : List (Nat × MI)) : RD P S K ((2, ⟨d, none, op, ty⟩) :: r) f w = stepK P op ty f w (goE P S K r d f) := rfl
@[go_sem] theorem RD_eg (d : Option Nat) (s : Nat) (b : Bool) (op : Op) (r : List (Nat × MI)) : RD P S K ((2, ⟨d, some (s, b), op, ty⟩) :: r) f w = gdE (f s) b P S K d op ty r f w := rfl
@[go_sem] theorem RD_l (d : Option Nat) (op : Op) (r : List (Nat × MI)) : RD P S K ((3, ⟨d, none, op, ty⟩) :: r) f w = stepK P op ty f w (goR P S K r d f) := rfl
@[go_sem] theorem RD_lg (d : Option Nat) (s : Nat) (b : Bool) (op : Op) (r : List (Nat × MI)) : RD P S K ((3, ⟨d, some (s, b), op, ty⟩) :: r) f w = gdL (f s) b P S K d op ty r f w := rfl
@[go_sem] theorem RD_h (d : Option Nat) (op : Op) (r : List (Nat × MI)) : RD P S K ((1, ⟨d, none, op, ty⟩) :: r) f w = hldK P S K d op ty r f w := rfl
@[go_sem] theorem RD_hg (d : Option Nat) (s : Nat) (b : Bool) (op : Op) (r : List (Nat × MI)) : RD P S K ((1, ⟨d, some (s, b), op, ty⟩) :: r) f w = gdH (f s) b P S K d op ty r f w := rfl
/-- What is held yields one value wherever S holds. -/
theorem hld_intro {d : Nat} {op : Op} {r : List (Nat × MI)} (v : Value) (h0 : S w) (h : ∀ w', S w' → stepK P op ty f w' fun u w'' => u = v ∧ w'' = w') (hr : RD P S K r (upd f d v) w) : hldK P S K (some d) op ty r f w := ⟨h0, v, h, hr⟩
section
variable (d : Nat) (op : Op) (ty : TypeId) (r : List (Nat × MI)) (c : Bool)
@[go_sem] theorem gdP_on : gdP (.bool c) c P S K (some d) op r f w = optW (pvOf P op f) (goR P S K r (some d) f) w := by cases c <;> rfl
@[go_sem] theorem gdP_tf : gdP (.bool true) false P S K (some d) op r f w = RD P S K r (upd f d undef) w := rfl
@[go_sem] theorem gdP_ft : gdP (.bool false) true P S K (some d) op r f w = RD P S K r (upd f d undef) w := rfl
@[go_sem] theorem gdE_on : gdE (.bool c) c P S K (some d) op ty r f w = stepK P op ty f w (goE P S K r (some d) f) := by cases c <;> rfl
@[go_sem] theorem gdE_tf : gdE (.bool true) false P TS K (some d) op ty r f w = RD P TS K r (upd f d undef) w := by show (True ∧ _) = _; simp [updo]
@[go_sem] theorem gdE_ft : gdE (.bool false) true P TS K (some d) op ty r f w = RD P TS K r (upd f d undef) w := by show (True ∧ _) = _; simp [updo]
@[go_sem] theorem gdL_on : gdL (.bool c) c P S K (some d) op ty r f w = stepK P op ty f w (goR P S K r (some d) f) := by cases c <;> rfl
@[go_sem] theorem gdL_tf : gdL (.bool true) false P S K (some d) op ty r f w = RD P S K r (upd f d undef) w := rfl
@[go_sem] theorem gdL_ft : gdL (.bool false) true P S K (some d) op ty r f w = RD P S K r (upd f d undef) w := rfl
@[go_sem] theorem gdH_on : gdH (.bool c) c P S K (some d) op ty r f w = hldK P S K (some d) op ty r f w := by cases c <;> rfl
end
theorem gdH_off {v : Value} {b : Bool} {d : Nat} {op : Op} {r : List (Nat × MI)} (hv : v = .bool (!b)) (h0 : S w) (h : RD P S K r (upd f d undef) w) : gdH v b P S K (some d) op ty r f w := by
  subst hv; cases b <;> exact ⟨h0, h⟩
theorem gdE_off {v : Value} {b : Bool} {d : Nat} {op : Op} {r : List (Nat × MI)} (hv : v = .bool (!b)) (h0 : S w) (h : RD P S K r (upd f d undef) w) : gdE v b P S K (some d) op ty r f w := by
  subst hv; cases b <;> exact ⟨h0, h⟩
end
section
variable (f : Fr)
@[go_sem] theorem pv_move (x : Operand) : pvOf P (.move x) f = some (ev f x) := rfl
@[go_sem] theorem pv_assign (x : Operand) : pvOf P (.assign x) f = some (ev f x) := rfl
@[go_sem] theorem pv_pick (c a b : Operand) : pvOf P (.pick c a b) f = pickV (ev f c) (ev f a) (ev f b) := rfl
@[go_sem] theorem pickV_bool (d : Bool) (x y : Value) : pickV (.bool d) x y = some (if d = true then x else y) := rfl
@[go_sem] theorem pv_nil (x : Operand) : pvOf P (.nilCheck x) f = nilV (ev f x) := rfl
@[go_sem] theorem pv_bin (op : BinOp) (t : TypeId) (x y : Operand) (yt : TypeId) : pvOf P (.binOp op t x y yt) f = binV P op t (ev f x) (ev f y) := rfl
@[go_sem] theorem pv_un (op : UnOp) (t : TypeId) (x : Operand) : pvOf P (.unOp op t x) f = unV op (ev f x) := rfl
@[go_sem] theorem pv_conv (s t : TypeId) (x : Operand) : pvOf P (.convert s t x) f = cvV P s t (ev f x) := rfl
@[go_sem] theorem pv_ext (x : Operand) (i : Nat) : pvOf P (.extract x i) f = extV i (ev f x) := rfl
@[go_sem] theorem pv_fld (s : TypeId) (x : Operand) (i : Nat) : pvOf P (.fieldAddr s x i) f = fldV P s i (ev f x) := rfl
@[go_sem] theorem pv_ixa (t : TypeId) (x i : Operand) : pvOf P (.indexAddr t x i) f = ixaV P t (ev f x) (ev f i) := rfl
@[go_sem] theorem pv_slc (t : TypeId) (x : Operand) (lo hi mx : Option Operand) : pvOf P (.slice t x lo hi mx) f = slcV P t (ev f x) (lo.map (ev f)) (hi.map (ev f)) (mx.map (ev f)) := rfl
@[go_sem] theorem pv_mkf (fn : Fn) (a b : Array Operand) : pvOf P (.makeFunc fn a b) f = some (Value.func fn (a.map (ev f)) (b.map (ev f))) := rfl
@[go_sem] theorem pv_bld (t : TypeId) (ps : Array (Nat × Operand)) : pvOf P (.build t ps) f = bldV P t (ps.map fun p => (p.1, ev f p.2)) := rfl
@[go_sem] theorem pv_len (args : Array Operand) (ats : Array TypeId) : pvOf P (.call { callee := .builtin .len, args := args, argTypes := ats }) f = lenA P ats (args.map (ev f)) := rfl
end
section
variable (op : BinOp) (t : TypeId) (kk : IntKind) (a b : Int)
@[go_sem] theorem bv_add : binV P .add t (.int kk a) (.int kk b) = some (.int kk (kk.wrap (a + b))) := by simp [binV, binI]
@[go_sem] theorem bv_sub : binV P .sub t (.int kk a) (.int kk b) = some (.int kk (kk.wrap (a - b))) := by simp [binV, binI]
@[go_sem] theorem bv_mul : binV P .mul t (.int kk a) (.int kk b) = some (.int kk (kk.wrap (a * b))) := by simp [binV, binI]
@[go_sem] theorem bv_quo (h : ¬ b = 0) : binV P .quo t (.int kk a) (.int kk b) = some (.int kk (kk.wrap (a.tdiv b))) := by simp [binV, binI, h]
@[go_sem] theorem bv_rem (h : ¬ b = 0) : binV P .rem t (.int kk a) (.int kk b) = some (.int kk (a.tmod b)) := by simp [binV, binI, h]
@[go_sem] theorem bv_and : binV P .and t (.int kk a) (.int kk b) = some (.int kk (bits .and kk a b)) := by simp [binV, binI]
@[go_sem] theorem bv_or : binV P .or t (.int kk a) (.int kk b) = some (.int kk (bits .or kk a b)) := by simp [binV, binI]
@[go_sem] theorem bv_xor : binV P .xor t (.int kk a) (.int kk b) = some (.int kk (bits .xor kk a b)) := by simp [binV, binI]
@[go_sem] theorem bv_shl (k2 : IntKind) (h : ¬ b < 0) : binV P .shl t (.int kk a) (.int k2 b) = some (.int kk (kk.wrap (a * 2 ^ min b.toNat kk.bits))) := by simp [binV, h]
@[go_sem] theorem bv_shr (k2 : IntKind) (h : ¬ b < 0) : binV P .shr t (.int kk a) (.int k2 b) = some (.int kk (a / 2 ^ min b.toNat kk.bits)) := by simp [binV, h]
@[go_sem] theorem bv_eql : binV P .eql t (.int kk a) (.int kk b) = some (.bool (a == b)) := by simp [binV, binI, cmpI]
@[go_sem] theorem bv_neq : binV P .neq t (.int kk a) (.int kk b) = some (.bool (a != b)) := by simp [binV, binI, cmpI]
@[go_sem] theorem bv_lss : binV P .lss t (.int kk a) (.int kk b) = some (.bool (decide (a < b))) := by simp [binV, binI, cmpI]
@[go_sem] theorem bv_leq : binV P .leq t (.int kk a) (.int kk b) = some (.bool (decide (a ≤ b))) := by simp [binV, binI, cmpI]
@[go_sem] theorem bv_gtr : binV P .gtr t (.int kk a) (.int kk b) = some (.bool (decide (b < a))) := by simp [binV, binI, cmpI]
@[go_sem] theorem bv_geq : binV P .geq t (.int kk a) (.int kk b) = some (.bool (decide (b ≤ a))) := by simp [binV, binI, cmpI]
@[go_sem] theorem bv_beq (p q : Bool) (h : isBool P t = true) : binV P .eql t (.bool p) (.bool q) = some (.bool (p == q)) := by simp [binV, h]
@[go_sem] theorem bv_bne (p q : Bool) (h : isBool P t = true) : binV P .neq t (.bool p) (.bool q) = some (.bool (!(p == q))) := by simp [binV, h]
@[go_sem] theorem bv_seq (p q : ByteArray) : binV P .eql t (.string p) (.string q) = some (.bool (p.toList == q.toList)) := rfl
@[go_sem] theorem bv_sne (p q : ByteArray) : binV P .neq t (.string p) (.string q) = some (.bool (!(p.toList == q.toList))) := rfl
end
/-- Where a slice that was cut off at l begins. -/
def cutA (A : Option Addr) (l c s : Nat) : Option Addr := if c = l then A else A.map (·.add (l * s))
theorem add_zero' (a : Addr) : a.add 0 = a := by simp [Addr.add]
theorem cutA_zero (A : Option Addr) (c s : Nat) : (if c = 0 then A else A.map (·.add (0 * s))) = A := by
  rw [Nat.zero_mul]
  cases A <;> simp [add_zero']
section
variable {t e : TypeId} {z : Nat} {w : World} {k : Value → World → Prop}
theorem slcV_hi (A : Option Addr) (n c : Nat) (kk : IntKind) (h : Int) (ht : P.underlying t = some (.slice e)) (hz : sizeOf1 P e = some z) (h0 : 0 ≤ h) (h1 : h ≤ c) :
    slcV P t (.slice A n c) none (some (.int kk h)) none = some (.slice A h.toNat c) := by
  have : h.toNat ≤ c := by omega
  simp [slcV, ht, hz, bndV, h0, this, sliced]
  intro _; cases A <;> simp [add_zero']
theorem slcV_lo (A : Option Addr) (n c : Nat) (kk : IntKind) (l : Int) (ht : P.underlying t = some (.slice e)) (hz : sizeOf1 P e = some z) (h0 : 0 ≤ l) (h1 : l ≤ n) (hc : n ≤ c) :
    slcV P t (.slice A n c) (some (.int kk l)) none none = some (.slice (cutA A l.toNat c z) (n - l.toNat) (c - l.toNat)) := by
  have : l.toNat ≤ n := by omega
  simp [slcV, ht, hz, bndV, h0, this, hc, sliced, cutA]
theorem slcV_lh (A : Option Addr) (n c : Nat) (kk k2 : IntKind) (l h : Int) (ht : P.underlying t = some (.slice e)) (hz : sizeOf1 P e = some z) (h0 : 0 ≤ l) (h1 : l ≤ h) (hc : h ≤ c) :
    slcV P t (.slice A n c) (some (.int kk l)) (some (.int k2 h)) none = some (.slice (cutA A l.toNat c z) (h.toNat - l.toNat) (c - l.toNat)) := by
  have h2 : l.toNat ≤ h.toNat := by omega
  have h3 : h.toNat ≤ c := by omega
  have h4 : 0 ≤ h := by omega
  simp [slcV, ht, hz, bndV, h0, h2, h3, h4, sliced, cutA]
theorem slcK_eq {x : Value} {lo hi mx : Option Value} {v : Value} (h : slcV P t x lo hi mx = some v) : slcK P t x lo hi mx w k = k v w := by
  refine propext ⟨fun hk => ?_, fun hk => slcK_of h hk⟩
  obtain ⟨v', w', hr, hk⟩ := hk
  obtain ⟨v2, w2, hr2, e⟩ := slcK_of (w := w) (k := fun u w'' => u = v ∧ w'' = w) h ⟨rfl, rfl⟩
  rw [hr] at hr2
  cases hr2
  obtain ⟨rfl, rfl⟩ := e
  exact hk
theorem cvV_int {s : TypeId} (kk k' : IntKind) (n : Int) (hs : (P.underlying s).isSome = true) (ht : P.underlying t = some (.int kk)) : cvV P s t (.int k' n) = some (.int kk (kk.wrap n)) := by
  obtain ⟨d, hd⟩ := Option.isSome_iff_exists.1 hs
  simp [cvV, hd, ht]
end
end Go.Proofs.Ytnoeeiaffnbhcaa.M
