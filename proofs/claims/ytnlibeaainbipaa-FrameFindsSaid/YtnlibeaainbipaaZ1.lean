/- A walk over loaded code whose frames are functions from slots to values: what is shown of such a walk holds of the machine's own call. Conditions: none beyond those that each theorem names. -/
import Derived.WalkKit
import Derived.Deep.LoopGhost
import Derived.OrdersHeld
import Derived.Deep.RegionHeld3
import Derived.Maps.AppendAt
import Derived.Test.YtnlibeaainbipaaWLast
namespace Go.Proofs.Ytnlibeaainbipaa.M
open Go.Proofs.YtnlibeaainbipaaW.PrintLast

/-! ### frames -/
abbrev Fr := Nat → Value
def upd (f : Fr) (d : Nat) (v : Value) : Fr := fun t => if t = d then v else f t
theorem upd_at (f : Fr) (d : Nat) (v : Value) (t : Nat) : upd f d v t = if t = d then v else f t := rfl
def updo (f : Fr) (d : Option Nat) (v : Value) : Fr := match d with
  | some d => upd f d v
  | none => f
theorem updo_some (f : Fr) (d : Nat) (v : Value) : updo f (some d) v = upd f d v := rfl
theorem updo_none (f : Fr) (v : Value) : updo f none v = f := rfl
def ev (f : Fr) : Operand → Value
  | .tmp t => f t
  | .const v => v
  | .global g => .pointer (some ⟨g, 0, none⟩)
  | .func g => .func (.func g) #[] #[]
theorem ev_tmp (f : Fr) (t : Nat) : ev f (.tmp t) = f t := rfl
theorem ev_const (f : Fr) (v : Value) : ev f (.const v) = v := rfl
theorem ev_func (f : Fr) (g : Nat) : ev f (.func g) = .func (.func g) #[] #[] := rfl

structure Sim (n : Nat) (a : Act) (f : Fr) : Prop where
  size : a.tmps.size = n
  get : ∀ t, a.tmps.getD t undef = f t
  defers : a.defers = []
theorem Sim.eval {n : Nat} {a : Act} {f : Fr} (h : Sim n a f) : a.eval = ev f := by
  funext x
  cases x with
  | tmp t => exact h.get t
  | _ => rfl
def dOk (n : Nat) (d : Option Nat) : Bool := match d with
  | some d => decide (d < n)
  | none => true
theorem Sim.put {n : Nat} {a : Act} {f : Fr} (h : Sim n a f) {d : Option Nat} (hd : dOk n d = true) (v : Value) : Sim n (a.put d v) (updo f d v) := by
  cases d with
  | none => exact h
  | some d =>
    have hd : d < n := by simpa [dOk] using hd
    refine ⟨by simp [Act.put, h.size], fun t => ?_, h.defers⟩
    have := h.get t
    simp only [Act.put, updo, upd]
    by_cases e : t = d
    · subst e
      rw [if_pos rfl]
      simp [Array.getD_eq_getD_getElem?, h.size, hd]
    · rw [if_neg e]
      rw [← this]
      simp [Array.getD_eq_getD_getElem?, Array.getElem?_setIfInBounds_ne (Ne.symm e)]

/-! ### what stands in for the code -/
/-- One operation: where it writes, when it is wanted (a slot, and what it must hold), what it does, of which type. -/
structure MI where
  dst : Option Nat
  gd : Option (Nat × Bool)
  op : Op
  ty : TypeId
/-- How a region goes on where two events may come up. -/
inductive DT where
  | fin
  | fork (m1 : MI) (l1 : List (Nat × MI)) (t1 : DT) (m2 : MI) (l2 : List (Nat × MI)) (t2 : DT)
inductive MC where
  | skip
  | ret
  | exit (id : Nat)
  | reg (l : List MI)
  | drw (l : List (Bool × List (Nat × MI)))
  | frk (l : List (Nat × MI)) (t : DT)
  | seq (a b : MC)
  | cond (c : Operand) (a b : MC)
  | blk (id : Nat) (c : MC)
  | loop (c : MC)

/-- It comes to a value, if to anything. -/
def isVal : Op → Bool
  | .move _ | .assign _ | .pick _ _ _ | .nilCheck _ | .binOp _ _ _ _ _ | .unOp _ _ _ | .convert _ _ _ | .extract _ _ | .fieldAddr _ _ _ | .indexAddr _ _ _ | .slice _ _ _ _ _ | .load _ _ | .makeFunc _ _ _ | .box _ _ => true
  | .buildSlice _ _ _ | .build _ _ | .alloc _ | .field _ _ _ | .index _ _ _ | .makeSlice _ _ _ | .makeMap _ _ | .lookup _ _ _ _ | .range _ _ | .next _ _ | .entry _ => true
  | .call c => match c.callee with
    | .builtin .len | .builtin .append | .builtin .copy | .builtin .delete | .builtin .cap | .builtin .min | .builtin .max => true
    | _ => false
  | _ => false
def hasBody (P : Program) (g : Nat) : Bool := match P.funcs[g]? with
  | some fn => fn.body.isSome && !(fn.name == "runtime.NumGoroutine")
  | none => false
/-- Nothing is selected. -/
def opOk (_P : Program) : Op → Bool
  | .select .. => false
  | _ => true
def gdOf (all : Array Oper) : Option (Nat × Bool) → Option (Option (Nat × Bool))
  | none => some none
  | some (j, b) => match (all[j]?).bind (·.dst) with
    | some d => some (some (d, b))
    | none => none
def miOf (P : Program) (n : Nat) (all : Array Oper) (o : Oper) : Option MI :=
  if dOk n o.dst && opOk P o.op then (gdOf all o.guard).map fun g => ⟨o.dst, g, o.op, o.type⟩ else none
def misOf (P : Program) (n : Nat) (all : Array Oper) : List Oper → Option (List MI)
  | [] => some []
  | o :: r => match miOf P n all o, misOf P n all r with
    | some m, some l => some (m :: l)
    | _, _ => none
/-- The order in which a region that draws is walked: (0: it yields in every world · 1: it yields in every world that is held · 2: an event, which alone may come up · 3: such a one behind which nothing is held, number). -/
def planGood (all : Array Oper) (ds : List Nat) (l : Array Bool) (q i : Nat) : Bool := match q with
  | 0 => anyB .any all l (l.setIfInBounds i true) i && (all[i]?).any (fun o => isVal o.op)
  | 1 => takeB .any all ds l (l.setIfInBounds i true) i && (all[i]?).any (fun o => isVal o.op)
  | 2 => readyB .any all l (l.setIfInBounds i true) i && !ds.contains i
  | _ => readyB .any all l (l.setIfInBounds i true) i && ds.contains i
def planOf (P : Program) (n : Nat) (all : Array Oper) (ds : List Nat) (l : Array Bool) : List (Nat × Nat) → Option (List (Nat × MI) × Array Bool)
  | [] => some ([], l)
  | (q, i) :: r =>
    if planGood all ds l q i = true then match (all[i]?).bind (miOf P n all), planOf P n all ds (l.setIfInBounds i true) r with
      | some m, some t => some ((q, m) :: t.1, t.2)
      | _, _ => none
    else none
/-- What has not come up yet is of ds. -/
def endB (all : Array Oper) (ds : List Nat) (l : Array Bool) : Bool := (List.range all.size).all fun j => l.getD j false || ds.contains j
/-- The parts in which such a region is walked: (is something held?, what comes behind, the order). -/
def segsOf (P : Program) (n : Nat) (all : Array Oper) (l : Array Bool) : List (Bool × List Nat × List (Nat × Nat)) → Option (List (Bool × List (Nat × MI)))
  | [] => if Region.ready .any all l == [] then some [] else none
  | (b, ds, p) :: r => match planOf P n all ds l p with
    | some (t, l') => if endB all ds l' = true then (segsOf P n all l' r).map ((b, t) :: ·) else none
    | none => none
def lens : List (Bool × List Nat × List (Nat × Nat)) → Nat
  | [] => 0
  | (_, _, p) :: r => p.length + lens r
/-- How such a region is walked: behind either of two events. -/
inductive PF where
  | fin
  | fork (i1 : Nat) (p1 : List (Nat × Nat)) (t1 : PF) (i2 : Nat) (p2 : List (Nat × Nat)) (t2 : PF)
inductive PN where
  | seg (p : List (Bool × List Nat × List (Nat × Nat)))
  | frk (ds : List Nat) (p : List (Nat × Nat)) (t : PF)
def szF : PF → Nat
  | .fin => 0
  | .fork _ p1 t1 _ _ _ => (p1.length + szF t1) + 1
def dtOf (P : Program) (n : Nat) (all : Array Oper) (ds : List Nat) : Array Bool → PF → Option DT
  | l, .fin => if Region.ready .any all l == [] then some .fin else none
  | l, .fork i1 p1 t1 i2 p2 t2 =>
    if (Region.ready .any all l == []) = false ∧ ((Region.ready .any all l).all fun i => i == i1 || i == i2) = true ∧ p1.length + szF t1 = p2.length + szF t2 then
      match (all[i1]?).bind (miOf P n all), (all[i2]?).bind (miOf P n all), planOf P n all ds (l.setIfInBounds i1 true) p1, planOf P n all ds (l.setIfInBounds i2 true) p2 with
      | some m1, some m2, some (l1, e1), some (l2, e2) => match dtOf P n all ds e1 t1, dtOf P n all ds e2 t2 with
        | some a, some b => some (.fork m1 l1 a m2 l2 b)
        | _, _ => none
      | _, _, _, _ => none
    else none
def mcOf (P : Program) (n : Nat) (plans : List (Nat × PN)) : Code → Option MC
  | .skip => some .skip
  | .ret => some .ret
  | .exit i => some (.exit i)
  | .region _ ops false => (misOf P n ops ops.toList).map .reg
  | .region id ops true => match plans.find? (·.1 == id) with
    | some (_, .seg p) => if lens p == ops.size then (segsOf P n ops (Array.replicate ops.size false) p).map .drw else none
    | some (_, .frk ds p t) => if p.length + szF t == ops.size then match planOf P n ops ds (Array.replicate ops.size false) p with
      | some (r, e) => (dtOf P n ops ds e t).map (.frk r)
      | none => none
      else none
    | none => none
  | .seq x y => match mcOf P n plans x, mcOf P n plans y with
    | some a, some b => some (.seq a b)
    | _, _ => none
  | .cond c x y => match mcOf P n plans x, mcOf P n plans y with
    | some a, some b => some (.cond c a b)
    | _, _ => none
  | .block id x => (mcOf P n plans x).map (.blk id)
  | .loop x => (mcOf P n plans x).map .loop
  | _ => none

/-! ### how a value is told -/
def optK {α : Type} (o : Option α) (k : α → Prop) : Prop := match o with
  | some a => k a
  | none => False
def optW (o : Option Value) (k : Value → World → Prop) (w : World) : Prop := match o with
  | some v => k v w
  | none => False
theorem optW_some (v : Value) (k : Value → World → Prop) (w : World) : optW (some v) k w = k v w := rfl
def stW (o : Option World) (k : Value → World → Prop) : Prop := match o with
  | some w => k undef w
  | none => False
theorem stW_some (w : World) (k : Value → World → Prop) : stW (some w) k = k undef w := rfl
def runK (P : Program) (s : Sem Value) (w : World) (k : Value → World → Prop) : Prop := ∃ v w', s.run P w = .ok v w' ∧ k v w'
def runU (P : Program) (s : Sem Unit) (w : World) (k : Value → World → Prop) : Prop := ∃ w', s.run P w = .ok () w' ∧ k undef w'
theorem runU_of {P : Program} {s : Sem Unit} {w w' : World} {k : Value → World → Prop} (h : s.run P w = .ok () w') (hk : k undef w') : runU P s w k := ⟨w', h, hk⟩
theorem runK_of {P : Program} {s : Sem Value} {w w' : World} {v : Value} {k : Value → World → Prop} (h : s.run P w = .ok v w') (hk : k v w') : runK P s w k := ⟨v, w', h, hk⟩
/-- A call by number: of a body by its contract, of what stands outside by its run. -/
def callK (P : Program) (g : Nat) (args : Array Value) (w : World) (k : Value → World → Prop) : Prop :=
  if hasBody P g = true then Calls P g args w fun e w' => ∃ v, e = .returned v ∧ k v w' else ∃ v w', (callFunc g args).run P w = .ok (.value v) w' ∧ k v w'
def pickW (c x y : Value) (k : Value → World → Prop) (w : World) : Prop := match c with
  | .bool b => k (if b = true then x else y) w
  | _ => False
theorem pickW_bool (b : Bool) (x y : Value) (k : Value → World → Prop) (w : World) : pickW (.bool b) x y k w = k (if b = true then x else y) w := rfl

def shapeOf (P : Program) (t : TypeId) : Option (Option Nat) := match P.underlying t, P.info? t with
  | some (.struct _), some i => some (some i.size)
  | some (.array _ _), some i => some (some i.size)
  | some _, some _ => some none
  | _, _ => none
def cellsAt (w : World) (a : Addr) (i : Nat) : Nat → Option (List Value)
  | 0 => some []
  | n + 1 => match w.cell? (a.add i), cellsAt w a (i + 1) n with
    | some v, some l => some (v :: l)
    | _, _ => none
def ldV (P : Program) (w : World) (t : TypeId) : Value → Option Value
  | .pointer (some a) => match shapeOf P t with
    | some none => w.cell? a
    | some (some n) => (cellsAt w a 0 n).map fun l => .agg l.toArray
    | none => none
  | _ => none
def stCells (w : World) (a : Addr) (i : Nat) : List Value → Option World
  | [] => some w
  | v :: r => if (w.cell? (a.add i)).isSome && !w.frozen? (a.add i) && v.oneCell' then stCells (w.setCell (a.add i) v) a (i + 1) r else none
def sizeOf1 (P : Program) (t : TypeId) : Option Nat := (P.info? t).map (·.size)
def stV (P : Program) (w : World) (t : TypeId) : Value → Value → Option World
  | .pointer (some a), v => if sizeOf1 P t = some v.cells.size then stCells w a 0 v.cells.toList else none
  | _, _ => none
def fOff (P : Program) (s : TypeId) (i : Nat) : Option Nat := match P.underlying s with
  | some (.struct fs) => match fs[i]? with
    | some f => match sizeOf1 P f.type with
      | some 0 => none
      | some _ => some f.offset
      | none => none
    | none => none
  | _ => none
def fldV (P : Program) (s : TypeId) (i : Nat) : Value → Option Value
  | .pointer (some a) => (fOff P s i).map fun o => .pointer (some (a.add o))
  | _ => none
def ixaV (P : Program) (t : TypeId) (x ix : Value) : Option Value := match P.underlying t, x, ix with
  | some (.slice e), .slice (some a) n _, .int _ i => if 0 ≤ i ∧ i < n then (sizeOf1 P e).map fun s => .pointer (some (a.add (i.toNat * s))) else none
  | some (.array n e), .pointer (some a), .int _ i => if 0 ≤ i ∧ i < n then (sizeOf1 P e).map fun s => .pointer (some (a.add (i.toNat * s))) else none
  | _, _, _ => none
def nilV : Value → Option Value
  | .pointer (some a) => some (.pointer (some a))
  | .func (.func g) x y => some (.func (.func g) x y)
  | _ => none
def extV (i : Nat) : Value → Option Value
  | .tuple vs => vs[i]?
  | _ => none
def unV (op : UnOp) (x : Value) : Option Value := match op, x with
  | .not, .bool b => some (.bool !b)
  | .neg, .int k n => some (.int k (k.wrap (0 - n)))
  | .xor, .int k n => some (.int k (bits .xor k (if k.signed then -1 else k.max) n))
  | _, _ => none
def cmpI (op : BinOp) (x y : Int) : Option Value := match op with
  | .eql => some (.bool (x == y))
  | .neq => some (.bool (x != y))
  | .lss => some (.bool (decide (x < y)))
  | .leq => some (.bool (decide (x ≤ y)))
  | .gtr => some (.bool (decide (x > y)))
  | .geq => some (.bool (decide (x ≥ y)))
  | _ => none
def binI (op : BinOp) (k : IntKind) (a b : Int) : Option Value := match op with
  | .add => some (.int k (k.wrap (a + b)))
  | .sub => some (.int k (k.wrap (a - b)))
  | .mul => some (.int k (k.wrap (a * b)))
  | .quo => if b = 0 then none else some (.int k (k.wrap (a.tdiv b)))
  | .rem => if b = 0 then none else some (.int k (a.tmod b))
  | .and => some (.int k (bits .and k a b))
  | .or => some (.int k (bits .or k a b))
  | .xor => some (.int k (bits .xor k a b))
  | .andNot => some (.int k (bits .andNot k a b))
  | .shl | .shr => none
  | op => cmpI op a b
def isBool (P : Program) (t : TypeId) : Bool := match P.underlying t with
  | some .bool => true
  | _ => false
def binV (P : Program) (op : BinOp) (t : TypeId) (x y : Value) : Option Value := match op, x, y with
  | .shl, .int k a, .int _ b => if b < 0 then none else some (.int k (k.wrap (a * 2 ^ min b.toNat k.bits)))
  | .shr, .int k a, .int _ b => if b < 0 then none else some (.int k (a / 2 ^ min b.toNat k.bits))
  | op, .int k a, .int k' b => if k = k' then binI op k a b else none
  | .eql, .bool a, .bool b => if isBool P t = true then some (.bool (a == b)) else none
  | .neq, .bool a, .bool b => if isBool P t = true then some (.bool (!(a == b))) else none
  | .eql, .string a, .string b => some (.bool (a.toList == b.toList))
  | .neq, .string a, .string b => some (.bool (!(a.toList == b.toList)))
  | _, _, _ => none
def binK (P : Program) (op : BinOp) (t : TypeId) (x y : Operand) (u v : Value) (w : World) (k : Value → World → Prop) : Prop := match binV P op t u v with
  | some r => k r w
  | none => runK P (do eqGuard op t x y u v; binOp op t u v) w k
def lenV (P : Program) (t : TypeId) (x : Value) : Option Value := match P.underlying t, x with
  | some .string, .string s => some (.int .i64 s.size)
  | some (.slice _), .slice _ n _ => some (.int .i64 n)
  | some (.array n _), _ => some (.int .i64 n)
  | _, _ => none
def cvK (P : Program) (s t : TypeId) (x : Value) (w : World) (k : Value → World → Prop) : Prop := match P.underlying s, P.underlying t, x with
  | some _, some (.int kk), .int _ n => k (.int kk (kk.wrap n)) w
  | some _, some .string, .string b => k (.string b) w
  | _, _, x => runK P (convert s t x) w k
def slcK (P : Program) (t : TypeId) (x : Value) (lo hi mx : Option Value) (w : World) (k : Value → World → Prop) : Prop := runK P (Instr.sliceAt t x lo hi mx) w k
def fnK (P : Program) (fv : Value) (args : Array Value) (w : World) (k : Value → World → Prop) : Prop := match fv with
  | .func (.func g) first cap => hasBody P g = true ∧ callK P g (first ++ args ++ cap) w k
  | _ => False
def resK (r : Result Next) (k : Value → World → Prop) : Prop := match r with
  | .ok (.value v) w => k v w
  | .ok .skip w => k undef w
  | _ => False
def boxK (t : TypeId) (v : Value) (w : World) (k : Value → World → Prop) : Prop := k (.pointer (some ⟨w.heap.size, 0, none⟩)) (w.alloc (.cells v.cells t))
def appK (P : Program) (ats : Array TypeId) (ty : TypeId) (args : Array Value) (w : World) (k : Value → World → Prop) : Prop := runK P (Builtin.append_ ats ty args) w k

def bslK (P : Program) (t : TypeId) (n : Nat) (ps : Array (Nat × Value)) (w : World) (k : Value → World → Prop) : Prop := runK P (Instr.buildSlice t n ps) w k
def bldK (P : Program) (t : TypeId) (ps : Array (Nat × Value)) (w : World) (k : Value → World → Prop) : Prop := runK P (Instr.build t ps) w k
def lenA (P : Program) (ats : Array TypeId) (args : Array Value) : Option Value := match ats[0]?, args[0]? with
  | some t, some x => lenV P t x
  | _, _ => none
/-- The length: told by the value, or looked up. -/
def lenW (P : Program) (o : Option Value) (ats : Array TypeId) (ty : TypeId) (args : Array Value) (w : World) (k : Value → World → Prop) : Prop := match o with
  | some v => k v w
  | none => runK P (Builtin.len_ ats ty args) w k
def valS (P : Program) (x : Operand) (args : Array Value) (f : Fr) (w : World) (k : Value → World → Prop) : Prop := match x with
  | .func g => callK P g args w k
  | x => fnK P (ev f x) args w k
def bltS (P : Program) (b : Builtin) (ats : Array TypeId) (ty : TypeId) (as : Array Operand) (args : Array Value) (f : Fr) (w : World) (k : Value → World → Prop) : Prop := match b with
  | .len => lenW P (lenA P ats args) ats ty args w k
  | .append => appK P ats ty args w k
  | .copy => runK P (Builtin.copy_ ats ty args) w k
  | .delete => runK P (Builtin.delete_ ats ty args) w k
  | .cap => runK P (Builtin.cap_ ats ty args) w k
  | .min => runK P (Builtin.min_ ats ty args) w k
  | .max => runK P (Builtin.max_ ats ty args) w k
  | b => resK ((execOp (ev f) ⟨none, .call ⟨.builtin b, as, ats⟩, ty, "", #[], none⟩).run P w) k
def callS (P : Program) (c : Call) (ty : TypeId) (f : Fr) (w : World) (k : Value → World → Prop) : Prop := match c.callee with
  | .value x => valS P x (c.args.map (ev f)) f w k
  | .builtin b => bltS P b c.argTypes ty c.args (c.args.map (ev f)) f w k
  | .invoke _ _ => resK ((execOp (ev f) ⟨none, .call c, ty, "", #[], none⟩).run P w) k
/-- What an operation comes to. -/
def stepK (P : Program) (op : Op) (ty : TypeId) (f : Fr) (w : World) (k : Value → World → Prop) : Prop := match op with
  | .move x => k (ev f x) w
  | .assign x => k (ev f x) w
  | .pick c a b => pickW (ev f c) (ev f a) (ev f b) k w
  | .nilCheck x => optW (nilV (ev f x)) k w
  | .binOp op t x y _ => binK P op t x y (ev f x) (ev f y) w k
  | .unOp op _ x => optW (unV op (ev f x)) k w
  | .convert s t x => cvK P s t (ev f x) w k
  | .extract x i => optW (extV i (ev f x)) k w
  | .fieldAddr s x i => optW (fldV P s i (ev f x)) k w
  | .indexAddr t x i => optW (ixaV P t (ev f x) (ev f i)) k w
  | .slice t x lo hi mx => slcK P t (ev f x) (lo.map (ev f)) (hi.map (ev f)) (mx.map (ev f)) w k
  | .load t x => optW (ldV P w t (ev f x)) k w
  | .store t x y => stW (stV P w t (ev f x) (ev f y)) k
  | .box t x => boxK t (ev f x) w k
  | .makeFunc fn first cap => k (.func fn (first.map (ev f)) (cap.map (ev f))) w
  | .buildSlice t n ps => bslK P t n (ps.map fun p => (p.1, ev f p.2)) w k
  | .build t ps => bldK P t (ps.map fun p => (p.1, ev f p.2)) w k
  | .alloc t => runK P (Instr.alloc t true (.tuple #[])) w k
  | .field t x i => runK P (Instr.field t (ev f x) i) w k
  | .index t x i => runK P (Instr.index t (ev f x) (ev f i)) w k
  | .makeSlice t x y => runK P (Instr.makeSlice t (ev f x) (ev f y)) w k
  | .makeMap t r => runK P (Instr.makeMap t (r.map (ev f))) w k
  | .lookup t x i ok => runK P (Instr.lookup t (ev f x) (ev f i) ok) w k
  | .mapUpdate t m i x => runU P (Instr.mapUpdate t (ev f m) (ev f i) (ev f x)) w k
  | .range t x => runK P (Instr.range t (ev f x)) w k
  | .next x b => runK P (Instr.next (ev f x) b ty) w k
  | .entry x => runK P (Instr.entry (ev f x)) w k
  | .call c => callS P c ty f w k
  | op => resK ((execOp (ev f) ⟨none, op, ty, "", #[], none⟩).run P w) k

def cvV (P : Program) (s t : TypeId) (x : Value) : Option Value := match P.underlying s, P.underlying t, x with
  | some _, some (.int kk), .int _ n => some (.int kk (kk.wrap n))
  | some _, some .string, .string b => some (.string b)
  | _, _, _ => none
def bndV (d : Nat) : Option Value → Option Nat
  | none => some d
  | some (.int _ i) => if 0 ≤ i then some i.toNat else none
  | _ => none
def slcV (P : Program) (t : TypeId) (x : Value) (lo hi mx : Option Value) : Option Value := match P.underlying t, x, mx with
  | some (.slice e), .slice A n c, none => match sizeOf1 P e, bndV 0 lo, bndV n hi with
    | some s, some l, some h => if l ≤ h ∧ h ≤ c then some (sliced A l h c s) else none
    | _, _, _ => none
  | _, _, _ => none
def placesOf (P : Program) (fs : List Field) : Option (List (Nat × Nat)) := fs.mapM fun f => (sizeOf1 P f.type).map fun s => (f.offset, s)
/-- What a struct is made as. -/
def bldV (P : Program) (t : TypeId) (ps : Array (Nat × Value)) : Option Value := match P.underlying t, (P.info? t).bind (·.zero) with
  | some (.struct fs), some z => match placesOf P fs.toList with
    | some l => (Instr.fill (l[·]?) z.cells ps.toList).map .agg
    | none => none
  | _, _ => none
/-- What an operation comes to in every world. -/
def pvOf (P : Program) (op : Op) (f : Fr) : Option Value := match op with
  | .move x => some (ev f x)
  | .assign x => some (ev f x)
  | .pick c a b => match ev f c with
    | .bool d => some (if d = true then ev f a else ev f b)
    | _ => none
  | .nilCheck x => nilV (ev f x)
  | .binOp op t x y _ => binV P op t (ev f x) (ev f y)
  | .unOp op _ x => unV op (ev f x)
  | .convert s t x => cvV P s t (ev f x)
  | .extract x i => extV i (ev f x)
  | .fieldAddr s x i => fldV P s i (ev f x)
  | .indexAddr t x i => ixaV P t (ev f x) (ev f i)
  | .slice t x lo hi mx => slcV P t (ev f x) (lo.map (ev f)) (hi.map (ev f)) (mx.map (ev f))
  | .makeFunc fn first cap => some (.func fn (first.map (ev f)) (cap.map (ev f)))
  | .build t ps => bldV P t (ps.map fun p => (p.1, ev f p.2))
  | .call c => match c.callee with
    | .builtin .len => lenA P c.argTypes (c.args.map (ev f))
    | _ => none
  | _ => none

/-- Is it wanted? -/
def gdB (f : Fr) (g : Option (Nat × Bool)) : Bool := match g with
  | none => true
  | some (d, b) => match f d with
    | .bool c => c == b
    | _ => false

def RL (P : Program) (K : Fr → World → Prop) : List MI → Fr → World → Prop
  | [], f, w => K f w
  | m :: r, f, w => if gdB f m.gd = true then stepK P m.op m.ty f w fun v w' => RL P K r (updo f m.dst v) w' else RL P K r (updo f m.dst undef) w
/-- A region that draws its order, in the order that was chosen: what is held (S) is shown behind each event but the last ones. -/
def RD (P : Program) (S : World → Prop) (K : Fr → World → Prop) : List (Nat × MI) → Fr → World → Prop
  | [], f, w => K f w
  | (q, m) :: r, f, w => match q with
    | 0 => if gdB f m.gd = true then (optW (pvOf P m.op f) (fun v w' => RD P S K r (updo f m.dst v) w') w) else (RD P S K r (updo f m.dst undef) w)
    | 1 => if gdB f m.gd = true then (S w ∧ ∃ v, (∀ w', S w' → stepK P m.op m.ty f w' fun u w'' => u = v ∧ w'' = w') ∧ RD P S K r (updo f m.dst v) w) else (S w ∧ RD P S K r (updo f m.dst undef) w)
    | 2 => if gdB f m.gd = true then (stepK P m.op m.ty f w fun v w' => S w' ∧ (S w' → RD P S K r (updo f m.dst v) w')) else (S w ∧ RD P S K r (updo f m.dst undef) w)
    | _ => if gdB f m.gd = true then (stepK P m.op m.ty f w fun v w' => RD P S K r (updo f m.dst v) w') else (RD P S K r (updo f m.dst undef) w)
/-- Nothing is held. -/
def TS : World → Prop := fun _ => True
/-- Part by part. -/
def RG (P : Program) (Q : Fr → World → Prop) : List (Bool × List (Nat × MI)) → Fr → World → Prop
  | [], f, w => Q f w
  | (true, l) :: r, f, w => ∃ S : World → Prop, S w ∧ RD P S (RG P Q r) l f w
  | (false, l) :: r, f, w => RD P TS (RG P Q r) l f w

/-- What is held is shown, and then it goes on. -/
def shS (S : World → Prop) (A : Fr → World → Prop) (f : Fr) (w : World) : Prop := S w ∧ (S w → A f w)
/-- Either of two events comes up. -/
def frkK (P : Program) (A B : Fr → World → Prop) (m1 m2 : MI) (f : Fr) (w : World) : Prop := RL P A [m1] f w ∧ RL P B [m2] f w
def DTK (P : Program) (S : World → Prop) (K : Fr → World → Prop) : DT → Fr → World → Prop
  | .fin => K
  | .fork m1 l1 t1 m2 l2 t2 => frkK P (shS S (RD P S (DTK P S K t1) l1)) (shS S (RD P S (DTK P S K t2) l2)) m1 m2
def frS (P : Program) (K : Fr → World → Prop) (l : List (Nat × MI)) (t : DT) (f : Fr) (w : World) : Prop := ∃ S : World → Prop, S w ∧ RD P S (DTK P S K t) l f w
def thenQ (K : Fr → World → Prop) (Q : Exit → Fr → World → Prop) : Exit → Fr → World → Prop
  | .normal, f, w => K f w
  | e, f, w => Q e f w
def blkQ (id : Nat) (Q : Exit → Fr → World → Prop) : Exit → Fr → World → Prop
  | .exit i, f, w => if i = id then Q .normal f w else Q (.exit i) f w
  | e, f, w => Q e f w
def WM (P : Program) : MC → (Exit → Fr → World → Prop) → Fr → World → Prop
  | .skip, Q, f, w => Q .normal f w
  | .ret, Q, f, w => Q .ret f w
  | .exit i, Q, f, w => Q (.exit i) f w
  | .reg l, Q, f, w => RL P (Q .normal) l f w
  | .drw l, Q, f, w => RG P (Q .normal) l f w.drew
  | .frk l t, Q, f, w => frS P (Q .normal) l t f w.drew
  | .seq x y, Q, f, w => WM P x (thenQ (WM P y Q) Q) f w
  | .cond c x y, Q, f, w => match ev f c with
    | .bool true => WM P x Q f w
    | .bool false => WM P y Q f w
    | _ => False
  | .blk id c, Q, f, w => WM P c (blkQ id Q) f w
  | .loop c, Q, f, w => ∃ (I : Nat → Fr → World → Prop) (n : Nat), I n f w ∧ ∀ n f w, I n f w → WM P c (thenQ (fun f' w' => ∃ n', n' < n ∧ I n' f' w') Q) f w

/-! ### the end of a call -/
def resL (P : Program) : List ResultVar → Fr → World → Option (List Value)
  | [], _, _ => some []
  | .tmp t :: r, f, w => (resL P r f w).map (f t :: ·)
  | .cell a t :: r, f, w => match ldV P w t (f a), resL P r f w with
    | some v, some l => some (v :: l)
    | _, _ => none
def resV (l : List Value) : Value := match l with
  | [v] => v
  | l => .tuple l.toArray
def retS (o : Option (List Value)) (R : Ending → World → Prop) (w : World) : Prop := match o with
  | some l => R (.returned (resV l)) w
  | none => False
theorem retS_some (l : List Value) (R : Ending → World → Prop) (w : World) : retS (some l) R w = R (.returned (resV l)) w := rfl
def retQ (P : Program) (rs : Array ResultVar) (R : Ending → World → Prop) : Exit → Fr → World → Prop
  | .normal, f, w => retS (resL P rs.toList f w) R w
  | .ret, f, w => retS (resL P rs.toList f w) R w
  | _, _, _ => False
def argF (args : Array Value) : Fr := fun t => args.getD t undef
end Go.Proofs.Ytnlibeaainbipaa.M

/- What is shown of a walk over slots as a function holds of the machine's call: the steps, the regions, the code. Conditions: the code was read by the checker. -/
namespace Go.Proofs.Ytnlibeaainbipaa.M
variable {P : Program}

theorem run_val {s : Sem Value} {w w' : World} {v : Value} (h : s.run P w = .ok v w') : (do pure (Next.value (← s)) : Sem Next).run P w = .ok (.value v) w' := by
  rw [Sem.run_bind, h]; rfl

theorem run_underlying' {t : TypeId} {d : TypeDesc} (h : P.underlying t = some d) (w : World) : (underlying t).run P w = .ok d w := by
  show (match P.underlying t with | some d => (pure d : Sem TypeDesc) | none => stuck "no such type").run P w = _
  rw [h]; rfl

theorem binI_run {op : BinOp} {k : IntKind} {a b : Int} {r : Value} (h : binI op k a b = some r) (h1 : op ≠ .shl) (h2 : op ≠ .shr) (t : TypeId) (w : World) :
    (binOp op t (.int k a) (.int k b)).run P w = .ok r w := by
  cases op <;> simp only [binI, cmpI] at h <;> (try split at h) <;> (try cases h) <;> (try contradiction) <;>
    simp_all [binOp, Op.intArith, Op.intDiv, Op.intCmp, Op.intBits, bits] <;> rfl

theorem isBool_of {t : TypeId} (h : isBool P t = true) : P.underlying t = some .bool := by
  unfold isBool at h
  split at h
  · assumption
  · cases h

theorem binV_run {op : BinOp} {t : TypeId} {u v r : Value} (h : binV P op t u v = some r) (x y : Operand) (w : World) :
    (do eqGuard op t x y u v; binOp op t u v : Sem Value).run P w = .ok r w := by
  unfold binV at h
  split at h
  · split at h
    · cases h
    · rename_i hb
      cases h
      simp [go_sem, binOp, Op.shift, hb]
  · rename_i k a k' b
    split at h
    · cases h
    · rename_i hb
      cases h
      simp only [eqGuard_shr, binOp, Op.shift]
      rw [Sem.run_bind]
      simp only [hb, if_false]
      show _ = Result.ok (Value.int k (a / 2 ^ min b.toNat k.bits)) w
      have : a.fdiv (2 ^ min b.toNat k.bits) = a / 2 ^ min b.toNat k.bits := Int.fdiv_eq_ediv_of_nonneg _ (Int.le_of_lt (Int.pow_pos (by decide)))
      rw [← this]; rfl
  · split at h
    · rename_i e
      subst e
      rw [Sem.run_bind, eqGuard_at_int]
      refine binI_run h ?_ ?_ t w
      · intro e; subst e; simp_all
      · intro e; subst e; simp_all
    · cases h
  · split at h
    · rename_i e
      cases h
      rw [Sem.run_bind, eqGuard_at_bool]
      exact run_eql_bool w t _ _ (isBool_of e)
    · cases h
  · split at h
    · rename_i e
      cases h
      rw [Sem.run_bind, eqGuard_at_bool]
      exact run_neq_bool w t _ _ (isBool_of e)
    · cases h
  · cases h; rw [Sem.run_bind, eqGuard_at_string]; rfl
  · cases h; rw [Sem.run_bind, eqGuard_at_string]; rfl
  · cases h

theorem run_typeInfo' {t : TypeId} {i : TypeInfo} (h : P.info? t = some i) (w : World) : (typeInfo t).run P w = .ok i w := by
  show (match P.info? t with | some i => (pure i : Sem TypeInfo) | none => stuck "no such type").run P w = _
  rw [h]; rfl
theorem run_sizeOf' {t : TypeId} {n : Nat} (h : sizeOf1 P t = some n) (w : World) : (sizeOf t).run P w = .ok n w := by
  unfold sizeOf1 at h
  cases hi : P.info? t with
  | none => rw [hi] at h; cases h
  | some i =>
    rw [hi] at h
    cases h
    unfold sizeOf
    rw [Sem.run_bind, run_typeInfo' hi]; rfl

theorem cellsAt_run {w : World} {a : Addr} : ∀ {n i : Nat} {l : List Value} (acc : Array Value), cellsAt w a i n = some l → (loadCellsFrom a i n acc).run P w = .ok (acc ++ l.toArray) w
  | 0, i, l, acc, h => by
    cases h
    simp [loadCellsFrom]
  | n + 1, i, l, acc, h => by
    unfold cellsAt at h
    split at h
    · rename_i v r hv hr
      cases h
      unfold loadCellsFrom
      rw [Sem.run_bind, run_load, hv]
      simp only [Result.andThen_ok]
      rw [cellsAt_run _ hr]
      simp
    · cases h

theorem shapeOf_agg {t : TypeId} {n : Nat} (h : shapeOf P t = some (some n)) (w : World) : (isAgg t).run P w = .ok true w ∧ (sizeOf t).run P w = .ok n w := by
  unfold shapeOf at h
  split at h
  · rename_i fs i h1 h2
    cases h
    exact ⟨by unfold isAgg; rw [Sem.run_bind, run_underlying' h1]; rfl, run_sizeOf' (by unfold sizeOf1; rw [h2]; rfl) w⟩
  · rename_i l e i h1 h2
    cases h
    exact ⟨by unfold isAgg; rw [Sem.run_bind, run_underlying' h1]; rfl, run_sizeOf' (by unfold sizeOf1; rw [h2]; rfl) w⟩
  · cases h
  · cases h
theorem shapeOf_one {t : TypeId} (h : shapeOf P t = some none) (w : World) : (isAgg t).run P w = .ok false w := by
  unfold shapeOf at h
  split at h
  · cases h
  · cases h
  · rename_i d i n1 n2 h1 h2
    unfold isAgg
    rw [Sem.run_bind, run_underlying' h1]
    simp only [Result.andThen_ok]
    cases d <;> first | rfl | (exact absurd rfl (n1 _)) | (exact absurd rfl (n2 _ _)) | (exfalso; simp_all)
  · cases h

theorem ldV_run {w : World} {t : TypeId} {x v : Value} (h : ldV P w t x = some v) : (Instr.loadAt t x).run P w = .ok v w := by
  unfold ldV at h
  split at h
  · rename_i a
    unfold Instr.loadAt Instr.sureAddr
    rw [Sem.run_bind, Sem.run_pure]
    simp only [Result.andThen_ok]
    unfold loadVar
    split at h
    · rename_i hs
      rw [Sem.run_bind, shapeOf_one hs]
      simp only [Result.andThen_ok]
      rw [if_neg (by decide), run_load, h]
    · rename_i n hs
      rw [Sem.run_bind, (shapeOf_agg hs w).1]
      simp only [Result.andThen_ok]
      cases hc : cellsAt w a 0 n with
      | none => rw [hc] at h; cases h
      | some l =>
        rw [hc] at h
        cases h
        rw [if_pos trivial, Sem.run_bind, (shapeOf_agg hs w).2]
        simp only [Result.andThen_ok]
        rw [Sem.run_bind]
        unfold loadCells
        rw [cellsAt_run _ hc]
        simp
    · cases h
  · cases h

theorem stCells_run {a : Addr} : ∀ {l : List Value} {w w' : World} {i : Nat}, stCells w a i l = some w' → (storeCells a l i).run P w = .ok () w'
  | [], w, w', i, h => by cases h; rfl
  | v :: r, w, w', i, h => by
    unfold stCells at h
    split at h
    · rename_i hc
      simp only [Bool.and_eq_true, Bool.not_eq_true', Option.isSome_iff_exists] at hc
      obtain ⟨⟨⟨u, hu⟩, hf⟩, h1⟩ := hc
      unfold storeCells
      rw [Sem.run_bind, run_store P w _ v _ h1, hu]
      simp only [hf, Bool.false_eq_true, if_false, Result.andThen_ok]
      exact stCells_run h
    · cases h

theorem stV_run {w w' : World} {t : TypeId} {x v : Value} (h : stV P w t x v = some w') : (Instr.storeAt t x v).run P w = .ok () w' := by
  unfold stV at h
  split at h
  · rename_i a v
    split at h
    · rename_i hs
      unfold Instr.storeAt Instr.sureAddr
      rw [Sem.run_bind, Sem.run_pure]
      simp only [Result.andThen_ok]
      unfold storeVar
      rw [Sem.run_bind, run_sizeOf' hs]
      simp only [Result.andThen_ok]
      rw [if_neg (by simp)]
      exact stCells_run h
    · cases h
  · cases h

theorem fldV_run {w : World} {s : TypeId} {i : Nat} {x v : Value} (h : fldV P s i x = some v) : (Instr.fieldAt s x i).run P w = .ok v w := by
  unfold fldV at h
  split at h
  · rename_i a
    cases ho : fOff P s i with
    | none => rw [ho] at h; cases h
    | some o =>
      rw [ho] at h
      cases h
      unfold fOff at ho
      split at ho
      · rename_i fs hu
        split at ho
        · rename_i f hf
          split at ho
          · cases ho
          · rename_i n hn hs
            cases ho
            unfold Instr.fieldAt
            rw [Sem.run_bind, run_underlying' hu]
            simp only [Result.andThen_ok, hf]
            unfold Instr.sureAddr
            rw [Sem.run_bind, Sem.run_pure]
            simp only [Result.andThen_ok]
            rw [Sem.run_bind]
            unfold fieldPlace
            rw [Sem.run_bind, run_sizeOf' hs]
            simp only [Result.andThen_ok]
            rw [if_neg (fun e => hn (by rw [e]))]
            rfl
          · cases ho
        · cases ho
      · cases ho
  · cases h

theorem ixaV_run {w : World} {t : TypeId} {x ix v : Value} (h : ixaV P t x ix = some v) : (Instr.indexAt t x ix).run P w = .ok v w := by
  unfold ixaV at h
  split at h
  · rename_i e a n c k i hu
    split at h
    · rename_i hr
      cases hs : sizeOf1 P e with
      | none => rw [hs] at h; cases h
      | some s =>
        rw [hs] at h
        cases h
        unfold Instr.indexAt
        simp only [asIntOf, Sem.run_bind, Sem.run_pure, Result.andThen_ok, run_underlying' hu]
        rw [if_pos hr]
        simp only [Sem.run_bind, run_sizeOf' hs, Result.andThen_ok, Sem.run_pure]
    · cases h
  · rename_i n e a k i hu
    split at h
    · rename_i hr
      cases hs : sizeOf1 P e with
      | none => rw [hs] at h; cases h
      | some s =>
        rw [hs] at h
        cases h
        unfold Instr.indexAt
        simp only [asIntOf, Sem.run_bind, Sem.run_pure, Result.andThen_ok, run_underlying' hu, Instr.sureAddr]
        rw [if_pos hr]
        simp only [Sem.run_bind, run_sizeOf' hs, Result.andThen_ok, Sem.run_pure]
    · cases h
  · cases h

theorem unV_run {w : World} {op : UnOp} {x v : Value} (h : unV op x = some v) : (Op.unary op x).run P w = .ok v w := by
  unfold unV at h
  split at h <;> first | (cases h; done) | (cases h; rfl)

theorem lenV_run {w : World} {t ty : TypeId} {x v : Value} (h : lenV P t x = some v) : (Builtin.len_ #[t] ty #[x]).run P w = .ok v w := by
  unfold lenV at h
  split at h
  · rename_i s hu
    cases h
    simp [Builtin.len_, run_underlying' hu, goInt]
  · rename_i e a n c hu
    cases h
    simp [Builtin.len_, run_underlying' hu, goInt]
  · rename_i n e hu
    cases h
    simp [Builtin.len_, run_underlying' hu, goInt]
  · cases h

theorem hasBody_run {g : Nat} (h : hasBody P g = true) (args : Array Value) (w : World) : (callFunc g args).run P w = .ok (.enter g args) w := by
  unfold hasBody at h
  split at h
  · rename_i fn hf
    simp only [Bool.and_eq_true, Bool.not_eq_true', beq_eq_false_iff_ne, ne_eq] at h
    obtain ⟨hb, hn⟩ := h
    obtain ⟨c, hc⟩ := Option.isSome_iff_exists.1 hb
    simp [callFunc, hf, hn, hc]
  · cases h

theorem upon_val {o : Oper} {a : Act} {K' : Act → World → Prop} {Q : Exit → Act → World → Prop} {ρ : Operand → Value} {w w' : World} {s : Sem Value} {v : Value} (he : execOp ρ o = (do pure (.value (← s)))) (hr : s.run P w = .ok v w')
    (h : K' (a.put o.dst v) w') : o.upon P a K' Q ((execOp ρ o).run P w) := by
  rw [he, run_val hr]; exact h

theorem call_upon {o : Oper} {a : Act} {K' : Act → World → Prop} {Q : Exit → Act → World → Prop} {ρ : Operand → Value} {w : World} {g : Nat} {args : Array Value} {k : Value → World → Prop} (hr : (execOp ρ o).run P w = .ok (.enter g args) w)
    (hb : hasBody P g = true) (h : callK P g args w k) (hk : ∀ v w', k v w' → K' (a.put o.dst v) w') : o.upon P a K' Q ((execOp ρ o).run P w) := by
  unfold callK at h
  rw [if_pos hb] at h
  rw [hr, Oper.upon_enter]
  refine Calls.mono h fun e w' he => ?_
  obtain ⟨v, rfl, hv⟩ := he
  exact hk v w' hv

theorem res_upon {o : Oper} {a : Act} {K' : Act → World → Prop} {Q : Exit → Act → World → Prop} {r : Result Next} {k : Value → World → Prop} (h : resK r k) (hk : ∀ v w', k v w' → K' (a.put o.dst v) w') : o.upon P a K' Q r := by
  unfold resK at h
  split at h
  · exact hk _ _ h
  · exact hk _ _ h
  · exact h.elim

theorem val_of {o : Oper} {ρ : Operand → Value} {w w' : World} {s : Sem Value} {v : Value} {k : Value → World → Prop} (he : execOp ρ o = (do pure (.value (← s)))) (hr : s.run P w = .ok v w') (h : k v w') :
    ∃ v w', (execOp ρ o).run P w = .ok (.value v) w' ∧ k v w' := ⟨v, w', by rw [he, run_val hr], h⟩

theorem ex_len (ρ : Operand → Value) (d : Option Tmp) (as : Array Operand) (ats : Array TypeId) (ty : TypeId) (pos : String) (aft : Array Edge) (g : Option (Nat × Bool)) :
    execOp ρ ⟨d, .call ⟨.builtin .len, as, ats⟩, ty, pos, aft, g⟩ = (do pure (.value (← Builtin.len_ ats ty (as.map ρ)))) := rfl
theorem ex_append (ρ : Operand → Value) (d : Option Tmp) (as : Array Operand) (ats : Array TypeId) (ty : TypeId) (pos : String) (aft : Array Edge) (g : Option (Nat × Bool)) :
    execOp ρ ⟨d, .call ⟨.builtin .append, as, ats⟩, ty, pos, aft, g⟩ = (do pure (.value (← Builtin.append_ ats ty (as.map ρ)))) := rfl
theorem ex_copy (ρ : Operand → Value) (d : Option Tmp) (as : Array Operand) (ats : Array TypeId) (ty : TypeId) (pos : String) (aft : Array Edge) (g : Option (Nat × Bool)) :
    execOp ρ ⟨d, .call ⟨.builtin .copy, as, ats⟩, ty, pos, aft, g⟩ = (do pure (.value (← Builtin.copy_ ats ty (as.map ρ)))) := rfl
theorem ex_delete (ρ : Operand → Value) (d : Option Tmp) (as : Array Operand) (ats : Array TypeId) (ty : TypeId) (pos : String) (aft : Array Edge) (g : Option (Nat × Bool)) :
    execOp ρ ⟨d, .call ⟨.builtin .delete, as, ats⟩, ty, pos, aft, g⟩ = (do pure (.value (← Builtin.delete_ ats ty (as.map ρ)))) := rfl
theorem ex_cap (ρ : Operand → Value) (d : Option Tmp) (as : Array Operand) (ats : Array TypeId) (ty : TypeId) (pos : String) (aft : Array Edge) (g : Option (Nat × Bool)) :
    execOp ρ ⟨d, .call ⟨.builtin .cap, as, ats⟩, ty, pos, aft, g⟩ = (do pure (.value (← Builtin.cap_ ats ty (as.map ρ)))) := rfl
theorem ex_min (ρ : Operand → Value) (d : Option Tmp) (as : Array Operand) (ats : Array TypeId) (ty : TypeId) (pos : String) (aft : Array Edge) (g : Option (Nat × Bool)) :
    execOp ρ ⟨d, .call ⟨.builtin .min, as, ats⟩, ty, pos, aft, g⟩ = (do pure (.value (← Builtin.min_ ats ty (as.map ρ)))) := rfl
theorem ex_max (ρ : Operand → Value) (d : Option Tmp) (as : Array Operand) (ats : Array TypeId) (ty : TypeId) (pos : String) (aft : Array Edge) (g : Option (Nat × Bool)) :
    execOp ρ ⟨d, .call ⟨.builtin .max, as, ats⟩, ty, pos, aft, g⟩ = (do pure (.value (← Builtin.max_ ats ty (as.map ρ)))) := rfl
theorem ex_bsl (ρ : Operand → Value) (d : Option Tmp) (t : TypeId) (n : Nat) (ps : Array (Nat × Operand)) (ty : TypeId) (pos : String) (aft : Array Edge) (g : Option (Nat × Bool)) :
    execOp ρ ⟨d, .buildSlice t n ps, ty, pos, aft, g⟩ = (do pure (.value (← Instr.buildSlice t n (ps.map fun p => (p.1, ρ p.2))))) := by
  unfold execOp; rfl
theorem ex_bld (ρ : Operand → Value) (d : Option Tmp) (t : TypeId) (ps : Array (Nat × Operand)) (ty : TypeId) (pos : String) (aft : Array Edge) (g : Option (Nat × Bool)) :
    execOp ρ ⟨d, .build t ps, ty, pos, aft, g⟩ = (do pure (.value (← Instr.build t (ps.map fun p => (p.1, ρ p.2))))) := by
  unfold execOp; rfl
theorem blt_val {dst : Option Tmp} {b : Builtin} {as : Array Operand} {ats : Array TypeId} {ty : TypeId} {pos : String} {after : Array Edge} {guard : Option (Nat × Bool)} {f : Fr} {w : World} {k : Value → World → Prop}
    (hv : isVal (.call ⟨.builtin b, as, ats⟩) = true) (h : bltS P b ats ty as (as.map (ev f)) f w k) :
    ∃ v w', (execOp (ev f) ⟨dst, .call ⟨.builtin b, as, ats⟩, ty, pos, after, guard⟩).run P w = .ok (.value v) w' ∧ k v w' := by
  cases b with
  | len =>
    unfold bltS lenW at h
    simp only at h
    split at h
    · rename_i v hv
      unfold lenA at hv
      split at hv
      · rename_i t x ht hx
        refine val_of (ex_len _ _ _ _ _ _ _ _) ?_ h
        have := lenV_run (ty := ty) (w := w) hv
        have e : Builtin.len_ ats ty (as.map (ev f)) = Builtin.len_ #[t] ty #[x] := by
          unfold Builtin.len_
          rw [ht, hx]
          rfl
        rw [e]
        exact this
      · cases hv
    · obtain ⟨v, w', hr, hv⟩ := h
      exact val_of (ex_len _ _ _ _ _ _ _ _) hr hv
  | append => obtain ⟨v, w', hr, hv⟩ := h; exact val_of (ex_append _ _ _ _ _ _ _ _) hr hv
  | copy => obtain ⟨v, w', hr, hv⟩ := h; exact val_of (ex_copy _ _ _ _ _ _ _ _) hr hv
  | delete => obtain ⟨v, w', hr, hv⟩ := h; exact val_of (ex_delete _ _ _ _ _ _ _ _) hr hv
  | cap => obtain ⟨v, w', hr, hv⟩ := h; exact val_of (ex_cap _ _ _ _ _ _ _ _) hr hv
  | min => obtain ⟨v, w', hr, hv⟩ := h; exact val_of (ex_min _ _ _ _ _ _ _ _) hr hv
  | max => obtain ⟨v, w', hr, hv⟩ := h; exact val_of (ex_max _ _ _ _ _ _ _ _) hr hv
  | _ => cases hv

theorem step_val {dst : Option Tmp} {op : Op} {ty : TypeId} {pos : String} {after : Array Edge} {guard : Option (Nat × Bool)} {f : Fr} {w : World} {k : Value → World → Prop} (hv : isVal op = true) (h : stepK P op ty f w k) :
    ∃ v w', (execOp (ev f) ⟨dst, op, ty, pos, after, guard⟩).run P w = .ok (.value v) w' ∧ k v w' := by
  cases op with
  | move x => exact val_of (s := pure _) rfl rfl h
  | assign x => exact val_of (s := pure _) rfl rfl h
  | pick c x y =>
    unfold stepK pickW at h
    simp only at h
    split at h
    · rename_i b hb
      have e : (execOp (ev f) ⟨dst, .pick c x y, ty, pos, after, guard⟩).run P w = .ok (.value (if b = true then ev f x else ev f y)) w := by
        show (do pure (Next.value (if ← asBool (ev f c) then ev f x else ev f y)) : Sem Next).run P w = _
        rw [hb]; rfl
      exact ⟨_, _, e, h⟩
    · exact h.elim
  | nilCheck x =>
    unfold stepK optW at h
    simp only at h
    split at h
    · rename_i v hv
      unfold nilV at hv
      split at hv
      · rename_i b hb
        cases hv
        exact ⟨_, _, by simp only [execOp, hb]; rfl, h⟩
      · rename_i g fs cs hb
        cases hv
        exact ⟨_, _, by simp only [execOp, hb]; rfl, h⟩
      · cases hv
    · exact h.elim
  | binOp op t x y yt =>
    unfold stepK binK at h
    simp only at h
    split at h
    · rename_i r hr
      exact val_of (s := do eqGuard op t x y (ev f x) (ev f y); Go.binOp op t (ev f x) (ev f y)) rfl (binV_run hr x y w) h
    · obtain ⟨v, w', hr, hv⟩ := h
      exact val_of (s := do eqGuard op t x y (ev f x) (ev f y); Go.binOp op t (ev f x) (ev f y)) rfl hr hv
  | unOp op t x =>
    unfold stepK optW at h
    simp only at h
    split at h
    · rename_i v hv
      exact val_of (s := Op.unary op (ev f x)) rfl (unV_run hv) h
    · exact h.elim
  | convert s t x =>
    unfold stepK cvK at h
    simp only at h
    split at h
    · rename_i d kk k' m hs' ht hx
      refine val_of (s := Go.convert s t (ev f x)) rfl ?_ h
      rw [hx]
      simp [Go.convert, run_underlying' hs', run_underlying' ht, Conv.intToInt]
    · rename_i d b hs' ht hx
      refine val_of (s := Go.convert s t (ev f x)) rfl ?_ h
      rw [hx]
      simp [Go.convert, run_underlying' hs', run_underlying' ht]
    · obtain ⟨v, w', hr, hv⟩ := h
      exact val_of (s := Go.convert s t (ev f x)) rfl hr hv
  | extract x i =>
    unfold stepK optW at h
    simp only at h
    split at h
    · rename_i v hv
      refine val_of (s := Instr.extract (ev f x) i) rfl ?_ h
      unfold extV at hv
      split at hv
      · rename_i vs hx
        rw [hx]
        simp [Instr.extract, hv]
      · cases hv
    · exact h.elim
  | fieldAddr s x i =>
    unfold stepK optW at h
    simp only at h
    split at h
    · rename_i v hv
      exact val_of (s := Instr.fieldAt s (ev f x) i) rfl (fldV_run hv) h
    · exact h.elim
  | indexAddr t x i =>
    unfold stepK optW at h
    simp only at h
    split at h
    · rename_i v hv
      exact val_of (s := Instr.indexAt t (ev f x) (ev f i)) rfl (ixaV_run hv) h
    · exact h.elim
  | load t x =>
    unfold stepK optW at h
    simp only at h
    split at h
    · rename_i v hv
      exact val_of (s := Instr.loadAt t (ev f x)) rfl (ldV_run hv) h
    · exact h.elim
  | makeFunc fn first cap => exact val_of (s := Instr.makeFunc fn (first.map (ev f)) (cap.map (ev f))) rfl rfl h
  | box t x => exact val_of (s := Instr.box t (ev f x)) rfl rfl h
  | slice t x lo hi mx => obtain ⟨v, w', hr, hv⟩ := h; exact val_of (s := Instr.sliceAt t (ev f x) (lo.map (ev f)) (hi.map (ev f)) (mx.map (ev f))) rfl hr hv
  | buildSlice t n ps => obtain ⟨v, w', hr, hv⟩ := h; exact val_of (ex_bsl _ _ _ _ _ _ _ _ _) hr hv
  | build t ps => obtain ⟨v, w', hr, hv⟩ := h; exact val_of (ex_bld _ _ _ _ _ _ _ _) hr hv
  | alloc t => obtain ⟨v, w', hr, hv⟩ := h; exact val_of (s := Instr.alloc t true (.tuple #[])) rfl hr hv
  | field t x i => obtain ⟨v, w', hr, hv⟩ := h; exact val_of (s := Instr.field t (ev f x) i) rfl hr hv
  | index t x i => obtain ⟨v, w', hr, hv⟩ := h; exact val_of (s := Instr.index t (ev f x) (ev f i)) rfl hr hv
  | makeSlice t x y => obtain ⟨v, w', hr, hv⟩ := h; exact val_of (s := Instr.makeSlice t (ev f x) (ev f y)) rfl hr hv
  | makeMap t r => obtain ⟨v, w', hr, hv⟩ := h; exact val_of (s := Instr.makeMap t (r.map (ev f))) rfl hr hv
  | lookup t x i ok => obtain ⟨v, w', hr, hv⟩ := h; exact val_of (s := Instr.lookup t (ev f x) (ev f i) ok) rfl hr hv
  | range t x => obtain ⟨v, w', hr, hv⟩ := h; exact val_of (s := Instr.range t (ev f x)) rfl hr hv
  | next x b => obtain ⟨v, w', hr, hv⟩ := h; exact val_of (s := Instr.next (ev f x) b ty) rfl hr hv
  | entry x => obtain ⟨v, w', hr, hv⟩ := h; exact val_of (s := Instr.entry (ev f x)) rfl hr hv
  | call c =>
    obtain ⟨callee, args, ats⟩ := c
    cases callee with
    | value x => cases hv
    | invoke x m => cases hv
    | builtin b => exact blt_val hv h
  | _ => cases hv

theorem step_sound {n : Nat} {a : Act} {f : Fr} {w : World} {o : Oper} {K' : Act → World → Prop} {Q : Exit → Act → World → Prop} {k : Value → World → Prop} (hs : Sim n a f) (hok : opOk P o.op = true) (h : stepK P o.op o.type f w k)
    (hk : ∀ v w', k v w' → K' (a.put o.dst v) w') : o.wp P a w K' Q := by
  obtain ⟨dst, op, ty, pos, after, guard⟩ := o
  unfold Oper.wp
  rw [hs.eval]
  simp only at h hok hk
  cases hv : isVal op with
  | true =>
    obtain ⟨v, w', hr, hkv⟩ := step_val (dst := dst) (pos := pos) (after := after) (guard := guard) hv h
    rw [hr]
    exact hk _ _ hkv
  | false =>
    cases op with
    | store t x y =>
      unfold stepK stW at h
      simp only at h
      split at h
      · rename_i w' hv
        have e : (execOp (ev f) ⟨dst, .store t x y, ty, pos, after, guard⟩).run P w = .ok .skip w' := by
          show (do Instr.storeAt t (ev f x) (ev f y); pure Next.skip : Sem Next).run P w = _
          rw [Sem.run_bind, stV_run hv]; rfl
        rw [e]
        exact hk _ _ h
      · exact h.elim
    | mapUpdate t m i x =>
      obtain ⟨w', hr, hu⟩ := h
      have e : (execOp (ev f) ⟨dst, .mapUpdate t m i x, ty, pos, after, guard⟩).run P w = .ok .skip w' := by
        show (do Instr.mapUpdate t (ev f m) (ev f i) (ev f x); pure Next.skip : Sem Next).run P w = _
        rw [Sem.run_bind, hr]; rfl
      rw [e]
      exact hk _ _ hu
    | call c =>
      obtain ⟨callee, args, ats⟩ := c
      cases callee with
      | invoke x m => exact res_upon h hk
      | builtin b => cases b <;> first | (cases hv; done) | exact res_upon h hk
      | value x =>
        cases x with
        | func g =>
          cases hb : hasBody P g with
          | true =>
            refine call_upon ?_ hb h hk
            have := hasBody_run (P := P) hb (args.map (ev f)) w
            simp [execOp, resolve, Deferred.ofValue, invoke, ev, this]
          | false =>
            replace h : callK P g (args.map (ev f)) w k := h
            unfold callK at h
            rw [if_neg (by rw [hb]; decide)] at h
            obtain ⟨v, w', hr, hkv⟩ := h
            have e : (execOp (ev f) ⟨dst, .call ⟨.value (.func g), args, ats⟩, ty, pos, after, guard⟩).run P w = .ok (.value v) w' := by
              simp [execOp, resolve, Deferred.ofValue, invoke, ev, hr]
            rw [e]
            exact hk _ _ hkv
        | _ =>
          unfold stepK callS valS fnK at h
          simp only at h
          split at h
          · rename_i g first cap hx
            obtain ⟨hb, hc⟩ := h
            rw [Array.append_assoc] at hc
            refine call_upon ?_ hb hc hk
            have := hasBody_run (P := P) hb (first ++ (args.map (ev f) ++ cap)) w
            simp [execOp, resolve, Deferred.ofValue, invoke, hx, this]
          · exact h.elim
    | _ => first | (cases hv; done) | exact res_upon h hk

/-! ### a struct that is made -/
theorem places_run {w : World} : ∀ {fs : List Field} {l : List (Nat × Nat)}, placesOf P fs = some l → (fs.mapM (fun f => (do pure (f.offset, ← sizeOf f.type) : Sem (Nat × Nat)))).run P w = .ok l w
  | [], l, h => by simp [placesOf] at h; subst h; rfl
  | f :: fs, l, h => by
    unfold placesOf at h
    rw [List.mapM_cons] at h
    cases hs : sizeOf1 P f.type with
    | none => rw [hs] at h; cases h
    | some s =>
      rw [hs] at h
      cases hr : placesOf P fs with
      | none =>
        unfold placesOf at hr
        rw [hr] at h; cases h
      | some l' =>
        have hr' := hr
        unfold placesOf at hr
        rw [hr] at h
        cases h
        rw [List.mapM_cons, Sem.run_bind]
        have e : (do pure (f.offset, ← sizeOf f.type) : Sem (Nat × Nat)).run P w = .ok (f.offset, s) w := by
          unfold sizeOf1 at hs
          cases hi : P.info? f.type with
          | none => rw [hi] at hs; cases hs
          | some i =>
            rw [hi] at hs
            cases hs
            simp [sizeOf, typeInfo, hi]
        rw [e]
        simp only [Result.andThen_ok]
        rw [Sem.run_bind, places_run hr']
        rfl
theorem bldV_run {t : TypeId} {ps : Array (Nat × Value)} {v : Value} (h : bldV P t ps = some v) (w : World) : (Instr.build t ps).run P w = .ok v w := by
  unfold bldV at h
  split at h
  · rename_i fs z hu hz
    split at h
    · rename_i l hl
      cases hf : Instr.fill (l[·]?) z.cells ps.toList with
      | none => rw [hf] at h; cases h
      | some out =>
        rw [hf] at h
        cases h
        cases hi : P.info? t with
        | none => rw [hi] at hz; cases hz
        | some i =>
          rw [hi] at hz
          replace hz : i.zero = some z := hz
          have hp := places_run (P := P) (w := w) hl
          have hp' : (fs.mapM (fun f => (do pure (f.offset, ← sizeOf f.type) : Sem (Nat × Nat)))).run P w = .ok l.toArray w := by
            rw [Array.mapM_eq_mapM_toList, ← bind_pure_comp, Sem.run_bind, hp]
            rfl
          have hf' : Instr.fill (fun x => l.toArray[x]?) z.cells ps.toList = some out := by simpa using hf
          have hzv : (zeroValue t).run P w = .ok z w := by simp [zeroValue, typeInfo, hi, hz]
          unfold Instr.build
          rw [Sem.run_bind]
          have e1 : (do let x ← zeroValue t; pure x.cells : Sem (Array Value)).run P w = .ok z.cells w := by rw [Sem.run_bind, hzv]; rfl
          simp only [Sem.run_bind, hzv, Result.andThen_ok, run_underlying hu, hp', hf', Sem.run_pure]
    · cases h
  · cases h
end Go.Proofs.Ytnlibeaainbipaa.M

/- What is shown of a walk over slots as a function holds of the machine's call: the regions, the code, the call. Conditions: the code was read by the checker. -/
namespace Go.Proofs.Ytnlibeaainbipaa.M
open Go.Proofs.YtnlibeaainbipaaW.PrintLast
variable {P : Program} {n : Nat}

def QA (n : Nat) (Q : Exit → Fr → World → Prop) : Exit → Act → World → Prop
  | .normal, a, w => ∃ f, Sim n a f ∧ Q .normal f w
  | .ret, a, w => ∃ f, Sim n a f ∧ Q .ret f w
  | .exit i, a, w => ∃ f, Sim n a f ∧ Q (.exit i) f w
  | _, _, _ => False

theorem yields_at {all : Array Oper} {a : Act} {f : Fr} (hs : Sim n a f) {j d : Nat} (hd : (all[j]?).bind (·.dst) = some d) : yielded all a.tmps j = match f d with
    | .bool b => some b
    | _ => none := by
  unfold yielded
  rw [hd]
  simp only [Option.bind_some]
  have hg := hs.get d
  rw [Array.getD_eq_getD_getElem?] at hg
  cases h : a.tmps[d]? with
  | none =>
    rw [h] at hg
    rw [← hg]
    rfl
  | some v =>
    rw [h] at hg
    rw [← hg]
    cases v <;> rfl

theorem gd_sound {all : Array Oper} {o : Oper} {a : Act} {f : Fr} {g : Option (Nat × Bool)} (hs : Sim n a f) (hg : gdOf all o.guard = some g) : Region.wanted o (yielded all a.tmps) = gdB f g := by
  unfold gdOf at hg
  unfold Region.wanted
  cases hgu : o.guard with
  | none =>
    rw [hgu] at hg
    cases hg
    rfl
  | some jb =>
    obtain ⟨j, b⟩ := jb
    rw [hgu] at hg
    simp only at hg
    split at hg
    · rename_i d hd
      cases hg
      simp only
      rw [yields_at hs hd]
      unfold gdB
      simp only
      cases f d <;> rfl
    · cases hg

theorem gd_split {b : Bool} {p q : Prop} (h : if b = true then p else q) : (b = true ∧ p) ∨ (b = false ∧ q) := by
  cases b
  · exact .inr ⟨rfl, h⟩
  · exact .inl ⟨rfl, h⟩
theorem miOf_some {all : Array Oper} {o : Oper} {m : MI} (h : miOf P n all o = some m) : dOk n o.dst = true ∧ opOk P o.op = true ∧ gdOf all o.guard = some m.gd ∧ m.dst = o.dst ∧ m.op = o.op ∧ m.ty = o.type := by
  unfold miOf at h
  split at h
  · rename_i hc
    rw [Bool.and_eq_true] at hc
    cases hg : gdOf all o.guard with
    | none => rw [hg] at h; cases h
    | some g =>
      rw [hg] at h
      cases h
      exact ⟨hc.1, hc.2, rfl, rfl, rfl, rfl⟩
  · cases h

theorem RL_sound {all : Array Oper} {K : Fr → World → Prop} {Q : Exit → Act → World → Prop} (hK : ∀ f w a, Sim n a f → K f w → Q .normal a w) :
    ∀ (ops : List Oper) (l : List MI), misOf P n all ops = some l → ∀ (f : Fr) (w : World) (a : Act), Sim n a f → RL P K l f w → wpList P all Q ops a w
  | [], l, hl, f, w, a, hs, h => by
    cases hl
    exact hK f w a hs h
  | o :: r, l, hl, f, w, a, hs, h => by
    unfold misOf at hl
    split at hl
    · rename_i m l' hm hr
      cases hl
      obtain ⟨h1, h2, h3, h4, h5, h6⟩ := miOf_some hm
      unfold RL at h
      rw [h4, h5, h6] at h
      refine wpList_step fun K' hK' => ?_
      rw [gd_sound hs h3]
      split
      · rename_i hw
        rw [if_pos hw] at h
        exact step_sound hs h2 h fun v w' hv => hK' _ _ (RL_sound hK r l' hr _ w' _ (hs.put h1 v) hv)
      · rename_i hw
        rw [if_neg hw] at h
        exact hK' _ _ (RL_sound hK r l' hr _ w _ (hs.put h1 undef) h)
    · cases hl

/-- An operation that comes to one value, and leaves the world, yields it. -/
theorem step_yields {f : Fr} {w : World} {o : Oper} {v : Value} {a : Act} (hs : Sim n a f) (hval : isVal o.op = true) (h : stepK P o.op o.type f w fun u w'' => u = v ∧ w'' = w) : (execOp a.eval o).run P w = .ok (.value v) w := by
  obtain ⟨dst, op, ty, pos, after, guard⟩ := o
  rw [hs.eval]
  obtain ⟨v', w', hr, rfl, rfl⟩ := step_val (dst := dst) (pos := pos) (after := after) (guard := guard) hval h
  exact hr

theorem sliceAt_run {t e : TypeId} {s : Nat} {A : Option Addr} {N c : Nat} {lo hi : Option Value} {l h : Nat} {w : World} (ht : P.underlying t = some (.slice e)) (hs : sizeOf1 P e = some s) (hl : bndV 0 lo = some l) (hh : bndV N hi = some h) (h1 : l ≤ h) (h2 : h ≤ c) :
    (Instr.sliceAt t (.slice A N c) lo hi none).run P w = .ok (sliced A l h c s) w := by
  have he : P.elem t = e := by simp [Program.elem, ht]
  have ht' : P.underlying t = some (.slice (P.elem t)) := by rw [he]; exact ht
  have hsz : (sizeOf (P.elem t)).run P w = .ok s w := by
    rw [he]
    unfold sizeOf1 at hs
    cases hi' : P.info? e with
    | none => rw [hi'] at hs; cases hs
    | some i =>
      rw [hi'] at hs
      simp only [Option.map_some, Option.some.injEq] at hs
      simp [sizeOf, typeInfo, hi', hs]
  rw [run_sliceAt_slice w t _ lo hi none ht']
  have key : ∀ {d : Nat} {o : Option Value} {m : Nat}, bndV d o = some m → (o = none ∧ d = m) ∨ ∃ k i, o = some (.int k i) ∧ 0 ≤ i ∧ m = i.toNat := by
    intro d o m ho
    unfold bndV at ho
    split at ho
    · exact .inl ⟨rfl, Option.some.inj ho⟩
    · split at ho
      · rename_i k i hi
        exact .inr ⟨k, i, rfl, hi, (Option.some.inj ho).symm⟩
      · cases ho
    · cases ho
  rcases key hl with ⟨rfl, rfl⟩ | ⟨k, i, rfl, hi0, rfl⟩ <;> rcases key hh with ⟨rfl, rfl⟩ | ⟨k', i', rfl, hi0', rfl⟩
  · rw [run_slice_any w t A _ c ht', show (Instr.sliceBounds true N c none none none).run P w = .ok (0, N, c) w by simp [Instr.sliceBounds]]
    simp [Result.andThen, hsz]
  · rw [run_slice_h w t A N c ht' k' i' hi0' (by omega), hsz]; rfl
  · rw [run_slice_any w t A N c ht', show (Instr.sliceBounds true N c (some (.int k i)) none none).run P w = .ok (i.toNat, N, c) w by
      simp [Instr.sliceBounds, run_sliceBound, hi0, (by omega : i ≤ (N : Int))]]
    simp [Result.andThen, hsz]
  · rw [run_slice_lh w t A N c ht' k k' i i' hi0 (by omega) (by omega), hsz]; rfl
theorem slcK_of {t : TypeId} {x : Value} {lo hi mx : Option Value} {v : Value} (h : slcV P t x lo hi mx = some v) {w : World} {k : Value → World → Prop} (hk : k v w) : slcK P t x lo hi mx w k := by
  unfold slcV at h
  split at h
  · rename_i e A n c ht
    split at h
    · rename_i s l hh hs hl hh'
      split at h
      · rename_i hc
        cases h
        exact runK_of (sliceAt_run ht hs hl hh' hc.1 hc.2) hk
      · cases h
    · cases h
  · cases h
/-- An operation that comes to one value in every world. -/
theorem pv_step {op : Op} {ty : TypeId} {f : Fr} {v : Value} (h : pvOf P op f = some v) {w : World} {k : Value → World → Prop} (hk : k v w) : stepK P op ty f w k := by
  cases op with
  | move x => cases h; exact hk
  | assign x => cases h; exact hk
  | pick c a b =>
    unfold pvOf at h
    unfold stepK pickW
    simp only at h ⊢
    split at h
    · rename_i d hd
      cases h
      exact hk
    · cases h
  | nilCheck x => show optW (nilV (ev f x)) k w; rw [show nilV (ev f x) = some v from h]; exact hk
  | binOp op t x y yt =>
    show binK P op t x y (ev f x) (ev f y) w k
    unfold binK
    rw [show binV P op t (ev f x) (ev f y) = some v from h]
    exact hk
  | unOp op t x => show optW (unV op (ev f x)) k w; rw [show unV op (ev f x) = some v from h]; exact hk
  | convert s t x =>
    replace h : cvV P s t (ev f x) = some v := h
    show cvK P s t (ev f x) w k
    unfold cvV at h
    unfold cvK
    split at h
    · cases h; simp_all
    · cases h; simp_all
    · cases h
  | extract x i => show optW (extV i (ev f x)) k w; rw [show extV i (ev f x) = some v from h]; exact hk
  | fieldAddr s x i => show optW (fldV P s i (ev f x)) k w; rw [show fldV P s i (ev f x) = some v from h]; exact hk
  | indexAddr t x i => show optW (ixaV P t (ev f x) (ev f i)) k w; rw [show ixaV P t (ev f x) (ev f i) = some v from h]; exact hk
  | slice t x lo hi mx => exact slcK_of h hk
  | makeFunc fn a b => cases h; exact hk
  | build t ps => exact runK_of (bldV_run (show bldV P t (ps.map fun p => (p.1, ev f p.2)) = some v from h) w) hk
  | call c =>
    obtain ⟨cal, as, ats⟩ := c
    unfold pvOf at h
    simp only at h
    split at h
    · show lenW P (lenA P ats (as.map (ev f))) ats ty (as.map (ev f)) w k
      rw [h]; exact hk
    · cases h
  | _ => cases h

theorem wpLast_of_any {all : Array Oper} {ds : List Nat} {S : World → Prop} {Q : Exit → Act → World → Prop} : ∀ (n : Nat) (l : Array Bool) (a : Act) (w : World), (∀ j, j < all.size → l.getD j false = false → j ∈ ds) → wpAny P .any all Q n l a w → wpAnyLast P .any all Q S ds n l a w
  | 0, _, _, _, _, h => h
  | n + 1, l, a, w, hd, h => by
    refine ⟨h.1, fun i hi => wpOp_mono (fun a' w' h' => ⟨?_, wpLast_of_any n _ a' w' ?_ h'⟩) (h.2 i hi)⟩
    · intro hn
      refine absurd (hd i ?_ ?_) hn
      · obtain ⟨_, o, ho, _⟩ := mem_ready.1 hi
        exact (Array.getElem?_eq_some_iff.1 ho).1
      · have := (mem_ready.1 hi).1
        rcases Nat.lt_or_ge i l.size with h' | h'
        · simpa [h'] using this
        · simp [Array.getElem?_eq_none h']
    · intro j hj hl
      refine hd j hj ?_
      by_cases hij : i = j
      · subst hij
        have := (mem_ready.1 hi).1
        rcases Nat.lt_or_ge i l.size with h' | h'
        · simpa [h'] using this
        · simp [Array.getElem?_eq_none h']
      · rw [getD_set_ne false hij] at hl
        exact hl
theorem endB_spec {all : Array Oper} {ds : List Nat} {l : Array Bool} (h : endB all ds l = true) : ∀ j, j < all.size → l.getD j false = false → j ∈ ds := by
  intro j hj hl
  have := List.all_eq_true.1 h j (List.mem_range.2 hj)
  rw [hl] at this
  simpa using this

theorem RD_sound' {all : Array Oper} {ds : List Nat} {S : World → Prop} {K : Fr → World → Prop} {Q : Exit → Act → World → Prop} {m : Nat} {lE : Array Bool} (hK : ∀ f w a, Sim n a f → K f w → wpAnyLast P .any all Q S ds m lE a w)
    (hQ : ∀ c a d v w, Q (.panic c) (Act.put a d v) w → Q (.panic c) a w) :
    ∀ (p : List (Nat × Nat)) (l : Array Bool) (r : List (Nat × MI)), planOf P n all ds l p = some (r, lE) → ∀ (f : Fr) (w : World) (a : Act), Sim n a f → RD P S K r f w → wpAnyLast P .any all Q S ds (p.length + m) l a w
  | [], l, r, hp, f, w, a, hs, h => by
    cases hp
    rw [List.length_nil, Nat.zero_add]
    exact hK f w a hs h
  | (q, i) :: p, l, r, hp, f, w, a, hs, h => by
    unfold planOf at hp
    split at hp
    · rename_i hg
      split at hp
      · rename_i m t hm ht
        cases hp
        cases ho : all[i]? with
        | none => rw [ho] at hm; cases hm
        | some o =>
          rw [ho] at hm
          simp only [Option.bind_some] at hm
          obtain ⟨h1, h2, h3, h4, h5, h6⟩ := miOf_some hm
          obtain ⟨t, lT⟩ := t
          have ih := RD_sound' (S := S) hK hQ p _ t ht
          rw [List.length_cons, Nat.succ_add]
          unfold RD at h
          unfold planGood at hg
          simp only [h4, h5, h6] at h
          split at hg
          · simp only [ho, Option.any_some, Bool.and_eq_true] at hg
            have hgd := gd_sound hs h3
            rcases gd_split h with ⟨hw, hr⟩ | ⟨hw, hr⟩ <;> rw [← hgd] at hw
            · cases hv : pvOf P o.op f with
              | none => rw [hv] at hr; exact hr.elim
              | some v =>
                rw [hv] at hr
                exact pure_ _ ho rfl hg.1 (fun c a w => hQ c a _ _ w) (.inl ⟨hw, fun w' => step_yields hs hg.2 (pv_step hv ⟨rfl, rfl⟩)⟩) rfl (ih _ w _ (hs.put h1 v) hr)
            · exact pure_ _ ho rfl hg.1 (fun c a w => hQ c a _ _ w) (.inr ⟨hw, rfl⟩) rfl (ih _ w _ (hs.put h1 undef) hr)
          · simp only [ho, Option.any_some, Bool.and_eq_true] at hg
            have hgd := gd_sound hs h3
            rcases gd_split h with ⟨hw, hS, v, hv, hr⟩ | ⟨hw, hS, hr⟩ <;> rw [← hgd] at hw
            · exact take_ _ ho rfl hg.1 (fun c a w => hQ c a _ _ w) (.inl ⟨hw, fun w' hS' => step_yields hs hg.2 (hv w' hS')⟩) hS rfl (ih _ w _ (hs.put h1 v) hr)
            · exact take_ _ ho rfl hg.1 (fun c a w => hQ c a _ _ w) (.inr ⟨hw, rfl⟩) hS rfl (ih _ w _ (hs.put h1 undef) hr)
          · simp only [Bool.and_eq_true, Bool.not_eq_true', List.contains_eq_mem, decide_eq_false_iff_not] at hg
            refine one_ _ ho rfl hg.1 hg.2 fun K' hK' => ?_
            have hgd := gd_sound hs h3
            rcases gd_split h with ⟨hw, hr⟩ | ⟨hw, hS, hr⟩ <;> rw [← hgd] at hw
            · rw [if_pos hw]
              exact step_sound hs h2 hr fun v w' hv => hK' _ _ hv.1 fun hS => ih _ w' _ (hs.put h1 v) (hv.2 hS)
            · rw [hw, if_neg (by decide)]
              exact hK' _ _ hS fun _ => ih _ w _ (hs.put h1 undef) hr
          · simp only [Bool.and_eq_true, List.contains_eq_mem, decide_eq_true_eq] at hg
            refine last_ _ ho rfl hg.1 hg.2 fun K' hK' => ?_
            split at h
            · exact absurd rfl (by assumption)
            · exact absurd rfl (by assumption)
            · exact absurd rfl (by assumption)
            · have hgd := gd_sound hs h3
              rcases gd_split h with ⟨hw, hr⟩ | ⟨hw, hr⟩ <;> rw [← hgd] at hw
              · rw [if_pos hw]
                exact step_sound hs h2 hr fun v w' hv => hK' _ _ (ih _ w' _ (hs.put h1 v) hv)
              · rw [hw, if_neg (by decide)]
                exact hK' _ _ (ih _ w _ (hs.put h1 undef) hr)
      · cases hp
    · cases hp

theorem RD_sound {all : Array Oper} {ds : List Nat} {S : World → Prop} {K : Fr → World → Prop} {Q : Exit → Act → World → Prop} {m : Nat} {lE : Array Bool} (hd : endB all ds lE = true) (hK : ∀ f w a, Sim n a f → K f w → wpAny P .any all Q m lE a w)
    (hQ : ∀ c a d v w, Q (.panic c) (Act.put a d v) w → Q (.panic c) a w)
    (p : List (Nat × Nat)) (l : Array Bool) (r : List (Nat × MI)) (hp : planOf P n all ds l p = some (r, lE)) (f : Fr) (w : World) (a : Act) (hs : Sim n a f) (h : RD P S K r f w) : wpAnyLast P .any all Q S ds (p.length + m) l a w :=
  RD_sound' (fun f w a hs hk => wpLast_of_any _ _ _ _ (endB_spec hd) (hK f w a hs hk)) hQ p l r hp f w a hs h

theorem RG_sound {all : Array Oper} {Q : Exit → Act → World → Prop} {K : Fr → World → Prop} (hK : ∀ f w a, Sim n a f → K f w → Q .normal a w)
    (hQ : ∀ c a d v w, Q (.panic c) (Act.put a d v) w → Q (.panic c) a w) :
    ∀ (p : List (Bool × List Nat × List (Nat × Nat))) (l : Array Bool) (r : List (Bool × List (Nat × MI))), segsOf P n all l p = some r → ∀ (f : Fr) (w : World) (a : Act), Sim n a f → RG P K r f w → wpAny P .any all Q (lens p) l a w
  | [], l, r, hp, f, w, a, hs, h => by
    unfold segsOf at hp
    split at hp
    · rename_i hr
      cases hp
      exact ⟨by simpa using hr, hK f w a hs h⟩
    · cases hp
  | (b, ds, p) :: q, l, r, hp, f, w, a, hs, h => by
    unfold segsOf at hp
    split at hp
    · rename_i t l' ht
      split at hp
      · rename_i hd
        cases hq : segsOf P n all l' q with
        | none => rw [hq] at hp; cases hp
        | some r' =>
          rw [hq] at hp
          cases hp
          have ih := RG_sound hK hQ q l' r' hq
          have main : ∀ S : World → Prop, RD P S (RG P K r') t f w → wpAny P .any all Q (lens ((b, ds, p) :: q)) l a w := fun S hS =>
            wpAny_of_last _ _ _ _ (RD_sound (S := S) hd (fun f w a hs h => ih f w a hs h) hQ p l t ht f w a hs hS)
          cases b with
          | true =>
            obtain ⟨S, hS, hr⟩ := h
            exact main S hr
          | false => exact main TS h
      · cases hp
    · cases hp

theorem op_sound {all : Array Oper} {o : Oper} {i : Nat} {m : MI} {K : Fr → World → Prop} {K' : Act → World → Prop} {Q : Exit → Act → World → Prop} {f : Fr} {w : World} {a : Act} (ho : all[i]? = some o) (hm : miOf P n all o = some m) (hs : Sim n a f)
    (hK : ∀ f w a, Sim n a f → K f w → K' a w) (h : RL P K [m] f w) : wpOp P all Q i K' a w := by
  obtain ⟨h1, h2, h3, h4, h5, h6⟩ := miOf_some hm
  unfold RL at h
  rw [h4, h5, h6] at h
  unfold wpOp
  rw [ho]
  simp only
  rw [gd_sound hs h3]
  split
  · rename_i hw
    rw [if_pos hw] at h
    exact .inl (step_sound hs h2 h fun v w' hv => hK _ w' _ (hs.put h1 v) hv)
  · rename_i hw
    rw [if_neg hw] at h
    exact hK _ w _ (hs.put h1 undef) h
theorem DT_sound {all : Array Oper} {ds : List Nat} {S : World → Prop} {Q : Exit → Act → World → Prop} {K : Fr → World → Prop} (hK : ∀ f w a, Sim n a f → K f w → Q .normal a w)
    (hQ : ∀ c a d v w, Q (.panic c) (Act.put a d v) w → Q (.panic c) a w) :
    ∀ (p : PF) (l : Array Bool) (t : DT), dtOf P n all ds l p = some t → ∀ (f : Fr) (w : World) (a : Act), Sim n a f → DTK P S K t f w → wpAnyLast P .any all Q S ds (szF p) l a w
  | .fin, l, t, hp, f, w, a, hs, h => by
    unfold dtOf at hp
    split at hp
    · rename_i hr
      cases hp
      exact ⟨by simpa using hr, hK f w a hs h⟩
    · cases hp
  | .fork i1 p1 t1 i2 p2 t2, l, t, hp, f, w, a, hs, h => by
    unfold dtOf at hp
    split at hp
    · rename_i hc
      obtain ⟨hc1, hc2, hc3⟩ := hc
      split at hp
      · rename_i m1 m2 l1 e1 l2 e2 h1 h2 h3 h4
        split at hp
        · rename_i a1 a2 h5 h6
          cases hp
          have s1 := RD_sound' (S := S) (DT_sound (S := S) hK hQ t1 _ a1 h5) hQ p1 _ l1 h3
          have s2 := RD_sound' (S := S) (DT_sound (S := S) hK hQ t2 _ a2 h6) hQ p2 _ l2 h4
          rw [← hc3] at s2
          refine ⟨fun hz => by rw [hz] at hc1; simp at hc1, fun i hi => ?_⟩
          have hi2 := List.all_eq_true.1 hc2 i hi
          rw [Bool.or_eq_true, beq_iff_eq, beq_iff_eq] at hi2
          rcases hi2 with rfl | rfl
          · cases ho : all[i]? with
            | none => rw [ho] at h1; cases h1
            | some o =>
              rw [ho] at h1
              exact op_sound ho h1 hs (fun f w' a hs hk => ⟨fun _ _ => hk.1, s1 f w' a hs (hk.2 hk.1)⟩) h.1
          · cases ho : all[i]? with
            | none => rw [ho] at h2; cases h2
            | some o =>
              rw [ho] at h2
              exact op_sound ho h2 hs (fun f w' a hs hk => ⟨fun _ _ => hk.1, s2 f w' a hs (hk.2 hk.1)⟩) h.2
        · cases hp
      · cases hp
    · cases hp
theorem WM_sound (hm : P.follows .mixedOrders = true) {plans : List (Nat × PN)} :
    ∀ (c : Code) (m : MC), mcOf P n plans c = some m → ∀ (Q : Exit → Fr → World → Prop) (f : Fr) (w : World) (a : Act), Sim n a f → WM P m Q f w → c.wp P (QA n Q) a w
  | .skip, m, h, Q, f, w, a, hs, hw => by
    cases h
    exact wp_skip ⟨f, hs, hw⟩
  | .ret, m, h, Q, f, w, a, hs, hw => by
    cases h
    exact wp_ret ⟨f, hs, hw⟩
  | .exit i, m, h, Q, f, w, a, hs, hw => by
    cases h
    exact wp_exit ⟨f, hs, hw⟩
  | .region id ops false, m, h, Q, f, w, a, hs, hw => by
    unfold mcOf at h
    cases hl : misOf P n ops ops.toList with
    | none => rw [hl] at h; cases h
    | some l =>
      rw [hl] at h
      cases h
      exact wp_region_list (RL_sound (fun f w a hs hk => ⟨f, hs, hk⟩) ops.toList l hl f w a hs hw)
  | .region id ops true, m, h, Q, f, w, a, hs, hw => by
    unfold mcOf at h
    split at h
    · rename_i i p hf
      split at h
      · rename_i hlen
        cases hl : segsOf P n ops (Array.replicate ops.size false) p with
        | none => rw [hl] at h; cases h
        | some l =>
          rw [hl] at h
          cases h
          have e : lens p = ops.size := by simpa using hlen
          refine wp_region_any hm ?_
          have := RG_sound (Q := QA n Q) (fun f w a hs hk => ⟨f, hs, hk⟩) (fun _ _ _ _ _ h => h.elim) p _ l hl f _ a hs hw
          rw [e] at this
          exact this
      · cases h
    · rename_i i ds p t hf
      split at h
      · rename_i hlen
        split at h
        · rename_i r e hr
          cases hl : dtOf P n ops ds e t with
          | none => rw [hl] at h; cases h
          | some d =>
            rw [hl] at h
            cases h
            have e : p.length + szF t = ops.size := by simpa using hlen
            refine wp_region_any hm ?_
            obtain ⟨S, hS, hr2⟩ := hw
            have := RD_sound' (S := S) (Q := QA n Q) (DT_sound (S := S) (Q := QA n Q) (fun f w a hs hk => ⟨f, hs, hk⟩) (fun _ _ _ _ _ h => h.elim) t _ d hl) (fun _ _ _ _ _ h => h.elim) p _ r hr f _ a hs hr2
            rw [e] at this
            exact wpAny_of_last _ _ _ _ this
        · cases h
      · cases h
    · cases h
  | .seq x y, m, h, Q, f, w, a, hs, hw => by
    unfold mcOf at h
    split at h
    · rename_i mx my hx hy
      cases h
      refine wp_seq (wp_mono (WM_sound hm x mx hx _ f w a hs hw) ?_)
      intro e a' w' hq
      cases e with
      | normal =>
        obtain ⟨f', hs', h'⟩ := hq
        exact WM_sound hm y my hy Q f' w' a' hs' h'
      | _ => exact hq
    · cases h
  | .cond c x y, m, h, Q, f, w, a, hs, hw => by
    unfold mcOf at h
    split at h
    · rename_i mx my hx hy
      cases h
      unfold WM at hw
      split at hw
      · rename_i hb
        exact wp_cond (t := true) (by rw [hs.eval]; exact hb) (WM_sound hm x mx hx Q f w a hs hw)
      · rename_i hb
        exact wp_cond (t := false) (by rw [hs.eval]; exact hb) (WM_sound hm y my hy Q f w a hs hw)
      · exact hw.elim
    · cases h
  | .block id x, m, h, Q, f, w, a, hs, hw => by
    unfold mcOf at h
    cases hx : mcOf P n plans x with
    | none => rw [hx] at h; cases h
    | some mx =>
      rw [hx] at h
      cases h
      refine wp_block (wp_mono (WM_sound hm x mx hx _ f w a hs hw) ?_)
      intro e a' w' hq
      cases e with
      | exit i =>
        obtain ⟨f', hs', h'⟩ := hq
        replace h' : if i = id then Q .normal f' w' else Q (.exit i) f' w' := h'
        show if i = id then QA n Q .normal a' w' else QA n Q (.exit i) a' w'
        by_cases hi : i = id
        · rw [if_pos hi] at h' ⊢
          exact ⟨f', hs', h'⟩
        · rw [if_neg hi] at h' ⊢
          exact ⟨f', hs', h'⟩
      | _ => exact hq
  | .loop x, m, h, Q, f, w, a, hs, hw => by
    unfold mcOf at h
    cases hx : mcOf P n plans x with
    | none => rw [hx] at h; cases h
    | some mx =>
      rw [hx] at h
      cases h
      obtain ⟨I, n₀, h0, hr⟩ := hw
      refine wp_loop_ghost (fun k a w => ∃ f, Sim n a f ∧ I k f w) n₀ ⟨f, hs, h0⟩ ?_
      intro k a w ⟨f, hs, hI⟩
      refine wp_mono (WM_sound hm x mx hx _ f w a hs (hr k f w hI)) ?_
      intro e a' w' hq
      cases e with
      | normal =>
        obtain ⟨f', hs', k', hlt, h'⟩ := hq
        exact ⟨k', hlt, f', hs', h'⟩
      | _ => exact hq
  | .rangeFunc _ _ _ _, _, h, _, _, _, _, _, _ => by cases h
  | .scope _, _, h, _, _, _, _, _, _ => by cases h
  | .label _, _, h, _, _, _, _, _, _ => by cases h
  | .goto _, _, h, _, _, _, _, _, _ => by cases h
  | .refuse _, _, h, _, _, _, _, _, _ => by cases h

/-- A function's code as it was read. -/
def fnOf (P : Program) (fn : Func) (plans : List (Nat × PN)) : Option MC := if P.follows .mixedOrders = true ∧ (fn.name == "runtime.NumGoroutine") = false then fn.body.bind (mcOf P fn.ntmps plans) else none

def resF (a : Act) : ResultVar → Sem Value
  | .tmp t => pure (a.tmps.getD t undef)
  | .cell b t => do loadVar t (← asAddr (a.tmps.getD b undef))
theorem resL_run {a : Act} {f : Fr} {w : World} (hs : Sim n a f) : ∀ {l : List ResultVar} {vs : List Value}, resL P l f w = some vs →
    (l.mapM (resF a)).run P w = .ok vs w
  | [], vs, h => by cases h; rfl
  | .tmp t :: r, vs, h => by
    unfold resL at h
    cases hr : resL P r f w with
    | none => rw [hr] at h; cases h
    | some l =>
      rw [hr] at h
      cases h
      rw [List.mapM_cons, Sem.run_bind]
      show (Result.ok (a.tmps.getD t undef) w).andThen _ = _
      simp only [Result.andThen_ok]
      rw [Sem.run_bind, resL_run hs hr]
      simp only [Result.andThen_ok, Sem.run_pure, hs.get]
  | .cell b t :: r, vs, h => by
    unfold resL at h
    split at h
    · rename_i v l hv hr
      cases h
      rw [List.mapM_cons, Sem.run_bind]
      have : (resF a (.cell b t)).run P w = .ok v w := by
        show (do loadVar t (← asAddr (a.tmps.getD b undef)) : Sem Value).run P w = .ok v w
        rw [hs.get]
        have h1 := ldV_run hv
        unfold Instr.loadAt at h1
        unfold ldV at hv
        split at hv
        · rename_i ad hfa
          rw [hfa] at h1 ⊢
          exact h1
        · cases hv
      rw [this]
      simp only [Result.andThen_ok]
      rw [Sem.run_bind, resL_run hs hr]
      rfl
    · cases h

theorem results_run {fn : Func} {a : Act} {f : Fr} {w : World} (hs : Sim n a f) {vs : List Value} (h : resL P fn.results.toList f w = some vs) : (results fn a.tmps).run P w = .ok (resV vs) w := by
  unfold results
  have h1 := resL_run (P := P) hs h
  rw [Sem.run_bind, Array.mapM_eq_mapM_toList, ← bind_pure_comp, Sem.run_bind]
  have e : ∀ (g g' : ResultVar → Sem Value), (∀ r, g r = g' r) → List.mapM g fn.results.toList = List.mapM g' fn.results.toList := fun g g' hg => by rw [funext hg]
  rw [e _ (resF a) (fun r => by cases r <;> rfl), h1]
  simp only [Result.andThen_ok, Sem.run_pure]
  congr 1
  match vs with
  | [] => rfl
  | [v] => rfl
  | u :: v :: r =>
    rw [dif_neg (by simp)]
    rfl

theorem calls_of {k : FuncId} {fn : Func} {plans : List (Nat × PN)} {m : MC} {args : Array Value} {w : World} {R : Ending → World → Prop} (hf : P.funcs[k]? = some fn) (hm : fnOf P fn plans = some m)
    (hsz : args.size ≤ fn.ntmps) (h : WM P m (retQ P fn.results R) (argF args) w) : Calls P k args w R := by
  unfold fnOf at hm
  split at hm
  · rename_i hx
    replace hx := hx.1
    cases hb : fn.body with
    | none => rw [hb] at hm; cases hm
    | some c =>
      rw [hb] at hm
      simp only [Option.bind_some] at hm
      refine calls_of_wp hf hb (wp_mono (WM_sound hx c m hm _ (argF args) w _ ?_ h) ?_)
      · refine ⟨by simp; omega, fun t => ?_, rfl⟩
        simp only [argF, Array.getD_eq_getD_getElem?, Array.getElem?_append]
        split
        · rfl
        · rename_i hge
          rw [Array.getElem?_eq_none (by omega : args.size ≤ t)]
          simp only [Option.getD_none]
          cases hr : (Array.replicate (fn.ntmps - args.size) undef)[t - args.size]? with
          | none => rfl
          | some v =>
            obtain ⟨hlt, he⟩ := Array.getElem?_eq_some_iff.1 hr
            simp at he
            rw [← he]; rfl
      · intro e a' w' hq
        cases e with
        | normal =>
          obtain ⟨f', hs, h'⟩ := hq
          replace h' : retS (resL P fn.results.toList f' w') R w' := h'
          cases hv : resL P fn.results.toList f' w' with
          | none => rw [hv] at h'; exact h'.elim
          | some vs =>
            rw [hv] at h'
            exact ⟨hs.defers, _, results_run hs hv, h'⟩
        | ret =>
          obtain ⟨f', hs, h'⟩ := hq
          replace h' : retS (resL P fn.results.toList f' w') R w' := h'
          cases hv : resL P fn.results.toList f' w' with
          | none => rw [hv] at h'; exact h'.elim
          | some vs =>
            rw [hv] at h'
            exact ⟨hs.defers, _, results_run hs hv, h'⟩
        | exit i =>
          obtain ⟨f', hs, h'⟩ := hq
          exact h'.elim
        | _ => exact hq.elim
  · cases hm

theorem callK.mono {g : Nat} {args : Array Value} {w : World} {k k' : Value → World → Prop} (h : callK P g args w k) (hk : ∀ v w', k v w' → k' v w') : callK P g args w k' := by
  unfold callK at *
  split at h
  · rename_i hb
    rw [if_pos hb]
    exact Calls.mono h fun _ _ ⟨v, he, hv⟩ => ⟨v, he, hk _ _ hv⟩
  · rename_i hb
    rw [if_neg hb]
    obtain ⟨v, w', hr, hkv⟩ := h
    exact ⟨v, w', hr, hk _ _ hkv⟩
theorem callK.calls {g : Nat} {args : Array Value} {w : World} {k : Value → World → Prop} (hb : hasBody P g = true) (h : callK P g args w k) : Calls P g args w fun e w' => ∃ v, e = .returned v ∧ k v w' := by
  unfold callK at h
  rw [if_pos hb] at h
  exact h
theorem Calls.callK {g : Nat} {args : Array Value} {w : World} {k : Value → World → Prop} (hb : hasBody P g = true) (h : Calls P g args w fun e w' => ∃ v, e = .returned v ∧ k v w') : M.callK P g args w k := by
  unfold M.callK
  rw [if_pos hb]
  exact h
/-- What stands outside is run. -/
theorem ext_intro {g : Nat} {args : Array Value} {w w' : World} {v : Value} {k : Value → World → Prop} (hb : hasBody P g = false) (h : (callFunc g args).run P w = .ok (.value v) w') (hk : k v w') : M.callK P g args w k := by
  unfold M.callK
  rw [if_neg (by rw [hb]; decide)]
  exact ⟨v, w', h, hk⟩
def retV (o : Option (List Value)) (R : Value → World → Prop) (w : World) : Prop := match o with
  | some l => R (resV l) w
  | none => False
def retK (P : Program) (rs : Array ResultVar) (R : Value → World → Prop) : Exit → Fr → World → Prop
  | .normal, f, w => retV (resL P rs.toList f w) R w
  | .ret, f, w => retV (resL P rs.toList f w) R w
  | _, _, _ => False
theorem callK_of {k : FuncId} {fn : Func} {plans : List (Nat × PN)} {m : MC} {args : Array Value} {w : World} {R : Value → World → Prop} (hf : P.funcs[k]? = some fn) (hm : fnOf P fn plans = some m)
    {rs : Array ResultVar} (hr : fn.results = rs) (hsz : args.size ≤ fn.ntmps) (h : WM P m (retK P rs R) (argF args) w) : callK P k args w R := by
  subst hr
  have hb : hasBody P k = true := by
    unfold fnOf at hm
    split at hm
    · rename_i hx
      unfold hasBody
      rw [hf]
      simp only [hx.2, Bool.not_false, Bool.and_true]
      cases hb : fn.body with
      | none => rw [hb] at hm; cases hm
      | some c => rfl
    · cases hm
  refine Calls.callK hb (calls_of hf hm hsz ?_)
  have e : retK P fn.results R = retQ P fn.results (fun e w' => ∃ v, e = .returned v ∧ R v w') := by
    funext e f w
    cases e <;> simp only [retK, retQ] <;> (cases resL P fn.results.toList f w <;> simp [retV, retS])
  rw [← e]
  exact h
end Go.Proofs.Ytnlibeaainbipaa.M

/- The rules by which a walk over slots as a function runs: each is an equation. Conditions: none beyond those that each names. -/
namespace Go.Proofs.Ytnlibeaainbipaa.M
variable {P : Program}

/-- What follows an operation, as data. -/
def goK (P : Program) (K : Fr → World → Prop) (r : List MI) (d : Option Nat) (f : Fr) : Value → World → Prop := fun v w' => RL P K r (updo f d v) w'
@[go_sem] theorem goK_some (K : Fr → World → Prop) (r : List MI) (d : Nat) (f : Fr) (v : Value) (w : World) : goK P K r (some d) f v w = RL P K r (upd f d v) w := rfl
@[go_sem] theorem goK_none (K : Fr → World → Prop) (r : List MI) (f : Fr) (v : Value) (w : World) : goK P K r none f v w = RL P K r f w := rfl
def gdS (v : Value) (b : Bool) (P : Program) (K : Fr → World → Prop) (d : Option Nat) (op : Op) (ty : TypeId) (r : List MI) (f : Fr) (w : World) : Prop :=
  if (match v with
    | .bool c => c == b
    | _ => false) = true then stepK P op ty f w (goK P K r d f) else RL P K r (updo f d undef) w
section
variable (K : Fr → World → Prop) (d : Option Nat) (op : Op) (ty : TypeId) (r : List MI) (f : Fr) (w : World)
@[go_sem] theorem gdS_tt : gdS (.bool true) true P K d op ty r f w = stepK P op ty f w (goK P K r d f) := rfl
@[go_sem] theorem gdS_ff : gdS (.bool false) false P K d op ty r f w = stepK P op ty f w (goK P K r d f) := rfl
@[go_sem] theorem gdS_tf (d : Nat) : gdS (.bool true) false P K (some d) op ty r f w = RL P K r (upd f d undef) w := rfl
@[go_sem] theorem gdS_ft (d : Nat) : gdS (.bool false) true P K (some d) op ty r f w = RL P K r (upd f d undef) w := rfl
end
def condS (v : Value) (P : Program) (x y : MC) (Q : Exit → Fr → World → Prop) (f : Fr) (w : World) : Prop := match v with
  | .bool true => WM P x Q f w
  | .bool false => WM P y Q f w
  | _ => False
@[go_sem] theorem condS_true (x y : MC) (Q : Exit → Fr → World → Prop) (f : Fr) (w : World) : condS (.bool true) P x y Q f w = WM P x Q f w := rfl
@[go_sem] theorem condS_false (x y : MC) (Q : Exit → Fr → World → Prop) (f : Fr) (w : World) : condS (.bool false) P x y Q f w = WM P y Q f w := rfl
theorem condS_split {b : Bool} {x y : MC} {Q : Exit → Fr → World → Prop} {f : Fr} {w : World} (h1 : b = true → WM P x Q f w) (h0 : b = false → WM P y Q f w) : condS (.bool b) P x y Q f w := by
  cases b
  · exact h0 rfl
  · exact h1 rfl

attribute [go_sem] upd_at ev_tmp ev_const ev_func optW_some stW_some retS_some pickW_bool

section
variable {K : Fr → World → Prop} {Q : Exit → Fr → World → Prop} {f : Fr} {w : World} {k : Value → World → Prop} {ty : TypeId}
@[go_sem ↓] theorem RL_nil : RL P K [] f w = K f w := rfl
@[go_sem] theorem RL_cons (d : Option Nat) (op : Op) (ty : TypeId) (r : List MI) : RL P K (⟨d, none, op, ty⟩ :: r) f w = stepK P op ty f w (goK P K r d f) := rfl
@[go_sem] theorem RL_guard (d : Option Nat) (s : Nat) (b : Bool) (op : Op) (ty : TypeId) (r : List MI) : RL P K (⟨d, some (s, b), op, ty⟩ :: r) f w = gdS (f s) b P K d op ty r f w := rfl
@[go_sem ↓] theorem stepK_move (x : Operand) : stepK P (.move x) ty f w k = k (ev f x) w := rfl
@[go_sem ↓] theorem stepK_assign (x : Operand) : stepK P (.assign x) ty f w k = k (ev f x) w := rfl
@[go_sem ↓] theorem stepK_pick (c a b : Operand) : stepK P (.pick c a b) ty f w k = pickW (ev f c) (ev f a) (ev f b) k w := rfl
@[go_sem ↓] theorem stepK_nil (x : Operand) : stepK P (.nilCheck x) ty f w k = optW (nilV (ev f x)) k w := rfl
@[go_sem ↓] theorem stepK_bin (op : BinOp) (t : TypeId) (x y : Operand) (yt : TypeId) : stepK P (.binOp op t x y yt) ty f w k = binK P op t x y (ev f x) (ev f y) w k := rfl
@[go_sem ↓] theorem stepK_un (op : UnOp) (t : TypeId) (x : Operand) : stepK P (.unOp op t x) ty f w k = optW (unV op (ev f x)) k w := rfl
@[go_sem ↓] theorem stepK_conv (s t : TypeId) (x : Operand) : stepK P (.convert s t x) ty f w k = cvK P s t (ev f x) w k := rfl
@[go_sem ↓] theorem stepK_ext (x : Operand) (i : Nat) : stepK P (.extract x i) ty f w k = optW (extV i (ev f x)) k w := rfl
@[go_sem ↓] theorem stepK_fld (s : TypeId) (x : Operand) (i : Nat) : stepK P (.fieldAddr s x i) ty f w k = optW (fldV P s i (ev f x)) k w := rfl
@[go_sem ↓] theorem stepK_ixa (t : TypeId) (x i : Operand) : stepK P (.indexAddr t x i) ty f w k = optW (ixaV P t (ev f x) (ev f i)) k w := rfl
@[go_sem ↓] theorem stepK_slc (t : TypeId) (x : Operand) (lo hi mx : Option Operand) : stepK P (.slice t x lo hi mx) ty f w k = slcK P t (ev f x) (lo.map (ev f)) (hi.map (ev f)) (mx.map (ev f)) w k := rfl
@[go_sem ↓] theorem stepK_load (t : TypeId) (x : Operand) : stepK P (.load t x) ty f w k = optW (ldV P w t (ev f x)) k w := rfl
@[go_sem ↓] theorem stepK_store (t : TypeId) (x y : Operand) : stepK P (.store t x y) ty f w k = stW (stV P w t (ev f x) (ev f y)) k := rfl
@[go_sem ↓] theorem stepK_box (t : TypeId) (x : Operand) : stepK P (.box t x) ty f w k = boxK t (ev f x) w k := rfl
@[go_sem ↓] theorem stepK_mkf (fn : Fn) (a b : Array Operand) : stepK P (.makeFunc fn a b) ty f w k = k (Value.func fn (a.map (ev f)) (b.map (ev f))) w := rfl
@[go_sem ↓] theorem stepK_call (g : Nat) (args : Array Operand) (ats : Array TypeId) : stepK P (.call { callee := .value (.func g), args := args, argTypes := ats }) ty f w k = callK P g (args.map (ev f)) w k := rfl
@[go_sem ↓] theorem stepK_callv (t : Nat) (args : Array Operand) (ats : Array TypeId) : stepK P (.call { callee := .value (.tmp t), args := args, argTypes := ats }) ty f w k = fnK P (f t) (args.map (ev f)) w k := rfl
@[go_sem ↓] theorem stepK_len (args : Array Operand) (ats : Array TypeId) : stepK P (.call { callee := .builtin .len, args := args, argTypes := ats }) ty f w k = lenW P (lenA P ats (args.map (ev f))) ats ty (args.map (ev f)) w k := rfl
@[go_sem] theorem lenW_some (v : Value) (ats : Array TypeId) (args : Array Value) : lenW P (some v) ats ty args w k = k v w := rfl
@[go_sem] theorem lenW_none (ats : Array TypeId) (args : Array Value) : lenW P none ats ty args w k = runK P (Builtin.len_ ats ty args) w k := rfl
@[go_sem ↓] theorem stepK_app (args : Array Operand) (ats : Array TypeId) : stepK P (.call { callee := .builtin .append, args := args, argTypes := ats }) ty f w k = appK P ats ty (args.map (ev f)) w k := rfl
@[go_sem ↓] theorem stepK_bsl (t : TypeId) (n : Nat) (ps : Array (Nat × Operand)) : stepK P (.buildSlice t n ps) ty f w k = bslK P t n (ps.map fun p => (p.1, ev f p.2)) w k := rfl
@[go_sem ↓] theorem stepK_bld (t : TypeId) (ps : Array (Nat × Operand)) : stepK P (.build t ps) ty f w k = bldK P t (ps.map fun p => (p.1, ev f p.2)) w k := rfl
@[go_sem ↓] theorem stepK_alloc (t : TypeId) : stepK P (.alloc t) ty f w k = runK P (Instr.alloc t true (.tuple #[])) w k := rfl
@[go_sem ↓] theorem stepK_field (t : TypeId) (x : Operand) (i : Nat) : stepK P (.field t x i) ty f w k = runK P (Instr.field t (ev f x) i) w k := rfl
@[go_sem ↓] theorem stepK_index (t : TypeId) (x i : Operand) : stepK P (.index t x i) ty f w k = runK P (Instr.index t (ev f x) (ev f i)) w k := rfl
@[go_sem ↓] theorem stepK_makeSlice (t : TypeId) (x y : Operand) : stepK P (.makeSlice t x y) ty f w k = runK P (Instr.makeSlice t (ev f x) (ev f y)) w k := rfl
@[go_sem ↓] theorem stepK_makeMap (t : TypeId) (r : Option Operand) : stepK P (.makeMap t r) ty f w k = runK P (Instr.makeMap t (r.map (ev f))) w k := rfl
@[go_sem ↓] theorem stepK_lookup (t : TypeId) (x i : Operand) (ok : Bool) : stepK P (.lookup t x i ok) ty f w k = runK P (Instr.lookup t (ev f x) (ev f i) ok) w k := rfl
@[go_sem ↓] theorem stepK_mapUpdate (t : TypeId) (m i x : Operand) : stepK P (.mapUpdate t m i x) ty f w k = runU P (Instr.mapUpdate t (ev f m) (ev f i) (ev f x)) w k := rfl
@[go_sem ↓] theorem stepK_range (t : TypeId) (x : Operand) : stepK P (.range t x) ty f w k = runK P (Instr.range t (ev f x)) w k := rfl
@[go_sem ↓] theorem stepK_next (x : Operand) (b : Bool) : stepK P (.next x b) ty f w k = runK P (Instr.next (ev f x) b ty) w k := rfl
@[go_sem ↓] theorem stepK_copy (args : Array Operand) (ats : Array TypeId) : stepK P (.call { callee := .builtin .copy, args := args, argTypes := ats }) ty f w k = runK P (Builtin.copy_ ats ty (args.map (ev f))) w k := rfl
@[go_sem ↓] theorem stepK_delete (args : Array Operand) (ats : Array TypeId) : stepK P (.call { callee := .builtin .delete, args := args, argTypes := ats }) ty f w k = runK P (Builtin.delete_ ats ty (args.map (ev f))) w k := rfl
@[go_sem ↓] theorem WM_skip : WM P .skip Q f w = Q .normal f w := rfl
@[go_sem ↓] theorem WM_ret : WM P .ret Q f w = Q .ret f w := rfl
@[go_sem ↓] theorem WM_exit (i : Nat) : WM P (.exit i) Q f w = Q (.exit i) f w := rfl
@[go_sem ↓] theorem WM_reg (l : List MI) : WM P (.reg l) Q f w = RL P (Q .normal) l f w := rfl
@[go_sem ↓] theorem WM_seq (x y : MC) : WM P (.seq x y) Q f w = WM P x (thenQ (WM P y Q) Q) f w := rfl
@[go_sem ↓] theorem WM_cond (c : Operand) (x y : MC) : WM P (.cond c x y) Q f w = condS (ev f c) P x y Q f w := rfl
@[go_sem ↓] theorem WM_blk (id : Nat) (c : MC) : WM P (.blk id c) Q f w = WM P c (blkQ id Q) f w := rfl
@[go_sem ↓] theorem thenQ_normal : thenQ K Q .normal f w = K f w := rfl
@[go_sem ↓] theorem thenQ_ret : thenQ K Q .ret f w = Q .ret f w := rfl
@[go_sem ↓] theorem thenQ_exit (i : Nat) : thenQ K Q (.exit i) f w = Q (.exit i) f w := rfl
@[go_sem ↓] theorem blkQ_normal (id : Nat) : blkQ id Q .normal f w = Q .normal f w := rfl
@[go_sem ↓] theorem blkQ_ret (id : Nat) : blkQ id Q .ret f w = Q .ret f w := rfl
@[go_sem ↓] theorem blkQ_exit (id i : Nat) : blkQ id Q (.exit i) f w = if i = id then Q .normal f w else Q (.exit i) f w := rfl
end

/-- A round has come nearer to the loop's end. -/
def decQ (I : Nat → Fr → World → Prop) (n : Nat) : Fr → World → Prop := fun f w => ∃ n', n' < n ∧ I n' f w
theorem loop_intro {c : MC} {Q : Exit → Fr → World → Prop} {f : Fr} {w : World} (I : Nat → Fr → World → Prop) (n : Nat) (h0 : I n f w) (h : ∀ n f w, I n f w → WM P c (thenQ (decQ I n) Q) f w) : WM P (.loop c) Q f w := ⟨I, n, h0, h⟩
@[go_sem] theorem min7 : min 7 64 = 7 := rfl
@[go_sem] theorem min1 : min 1 64 = 1 := rfl
@[go_sem] theorem min1_32 : min 1 32 = 1 := rfl
@[go_sem] theorem min8_32 : min 8 32 = 8 := rfl
@[go_sem] theorem min63 : min 63 64 = 63 := rfl

@[go_sem] theorem argF_0 (a : Value) (l : List Value) : argF (a :: l).toArray 0 = a := rfl
@[go_sem] theorem argF_1 (a b : Value) (l : List Value) : argF (a :: b :: l).toArray 1 = b := rfl
@[go_sem] theorem argF_2 (a b c : Value) (l : List Value) : argF (a :: b :: c :: l).toArray 2 = c := rfl
@[go_sem] theorem argF_3 (a b c d : Value) (l : List Value) : argF (a :: b :: c :: d :: l).toArray 3 = d := rfl
@[go_sem] theorem argF_4 (a b c d e : Value) (l : List Value) : argF (a :: b :: c :: d :: e :: l).toArray 4 = e := rfl

/-! ### values -/
@[go_sem] theorem nilV_ptr (a : Addr) : nilV (.pointer (some a)) = some (.pointer (some a)) := rfl
@[go_sem] theorem nilV_func (g : Nat) (x y : Array Value) : nilV (.func (.func g) x y) = some (.func (.func g) x y) := rfl
@[go_sem] theorem extV_tup (i : Nat) (vs : List Value) : extV i (.tuple vs.toArray) = vs[i]? := by simp [extV]
@[go_sem] theorem unV_not (b : Bool) : unV .not (.bool b) = some (.bool !b) := rfl
@[go_sem] theorem unV_xor32 (n : Int) : unV .xor (.int .u32 n) = some (.int .u32 (bits .xor .u32 4294967295 n)) := rfl
@[go_sem] theorem unV_neg (k : IntKind) (n : Int) : unV .neg (.int k n) = some (.int k (k.wrap (0 - n))) := rfl
section
variable (op : BinOp) (t : TypeId) (x y : Operand) (w : World) (k : Value → World → Prop) (kk : IntKind) (a b : Int)
@[go_sem] theorem bin_add : binK P .add t x y (.int kk a) (.int kk b) w k = k (.int kk (kk.wrap (a + b))) w := by simp [binK, binV, binI]
@[go_sem] theorem bin_sub : binK P .sub t x y (.int kk a) (.int kk b) w k = k (.int kk (kk.wrap (a - b))) w := by simp [binK, binV, binI]
@[go_sem] theorem bin_mul : binK P .mul t x y (.int kk a) (.int kk b) w k = k (.int kk (kk.wrap (a * b))) w := by simp [binK, binV, binI]
@[go_sem] theorem bin_quo (h : ¬ b = 0) : binK P .quo t x y (.int kk a) (.int kk b) w k = k (.int kk (kk.wrap (a.tdiv b))) w := by simp [binK, binV, binI, h]
@[go_sem] theorem bin_rem (h : ¬ b = 0) : binK P .rem t x y (.int kk a) (.int kk b) w k = k (.int kk (a.tmod b)) w := by simp [binK, binV, binI, h]
@[go_sem] theorem bin_and : binK P .and t x y (.int kk a) (.int kk b) w k = k (.int kk (bits .and kk a b)) w := by simp [binK, binV, binI]
@[go_sem] theorem bin_or : binK P .or t x y (.int kk a) (.int kk b) w k = k (.int kk (bits .or kk a b)) w := by simp [binK, binV, binI]
@[go_sem] theorem bin_xor : binK P .xor t x y (.int kk a) (.int kk b) w k = k (.int kk (bits .xor kk a b)) w := by simp [binK, binV, binI]
@[go_sem] theorem bin_shl (k2 : IntKind) (h : ¬ b < 0) : binK P .shl t x y (.int kk a) (.int k2 b) w k = k (.int kk (kk.wrap (a * 2 ^ min b.toNat kk.bits))) w := by simp [binK, binV, h]
@[go_sem] theorem bin_shr (k2 : IntKind) (h : ¬ b < 0) : binK P .shr t x y (.int kk a) (.int k2 b) w k = k (.int kk (a / 2 ^ min b.toNat kk.bits)) w := by simp [binK, binV, h]
@[go_sem] theorem bin_eql : binK P .eql t x y (.int kk a) (.int kk b) w k = k (.bool (a == b)) w := by simp [binK, binV, binI, cmpI]
@[go_sem] theorem bin_neq : binK P .neq t x y (.int kk a) (.int kk b) w k = k (.bool (a != b)) w := by simp [binK, binV, binI, cmpI]
@[go_sem] theorem bin_lss : binK P .lss t x y (.int kk a) (.int kk b) w k = k (.bool (decide (a < b))) w := by simp [binK, binV, binI, cmpI]
@[go_sem] theorem bin_leq : binK P .leq t x y (.int kk a) (.int kk b) w k = k (.bool (decide (a ≤ b))) w := by simp [binK, binV, binI, cmpI]
@[go_sem] theorem bin_gtr : binK P .gtr t x y (.int kk a) (.int kk b) w k = k (.bool (decide (b < a))) w := by simp [binK, binV, binI, cmpI]
@[go_sem] theorem bin_geq : binK P .geq t x y (.int kk a) (.int kk b) w k = k (.bool (decide (b ≤ a))) w := by simp [binK, binV, binI, cmpI]
@[go_sem] theorem bin_beq (p q : Bool) (h : isBool P t = true) : binK P .eql t x y (.bool p) (.bool q) w k = k (.bool (p == q)) w := by simp [binK, binV, h]
@[go_sem] theorem bin_bne (p q : Bool) (h : isBool P t = true) : binK P .neq t x y (.bool p) (.bool q) w k = k (.bool (!(p == q))) w := by simp [binK, binV, h]
@[go_sem] theorem bin_seq (p q : ByteArray) : binK P .eql t x y (.string p) (.string q) w k = k (.bool (p.toList == q.toList)) w := rfl
@[go_sem] theorem bin_sne (p q : ByteArray) : binK P .neq t x y (.string p) (.string q) w k = k (.bool (!(p.toList == q.toList))) w := rfl
end
theorem shape_und {t : TypeId} {d : TypeDesc} (h : P.underlying t = some d) : ∃ d', P.underlying t = some d' := ⟨d, h⟩
section
variable {s t : TypeId} {w : World} {k : Value → World → Prop}
@[go_sem] theorem cv_int (kk k' : IntKind) (n : Int) (hs : (P.underlying s).isSome = true) (ht : P.underlying t = some (.int kk)) : cvK P s t (.int k' n) w k = k (.int kk (kk.wrap n)) w := by
  obtain ⟨d, hd⟩ := Option.isSome_iff_exists.1 hs
  simp [cvK, hd, ht]
@[go_sem] theorem cv_str (b : ByteArray) (hs : (P.underlying s).isSome = true) (ht : P.underlying t = some .string) : cvK P s t (.string b) w k = k (.string b) w := by
  obtain ⟨d, hd⟩ := Option.isSome_iff_exists.1 hs
  simp [cvK, hd, ht]
theorem fldV_ptr {i o : Nat} (a : Addr) (h : fOff P s i = some o) : fldV P s i (.pointer (some a)) = some (.pointer (some (a.add o))) := by simp [fldV, h]
theorem ixaV_slice {e : TypeId} {z : Nat} (a : Addr) (n c : Nat) (kk : IntKind) (i : Int) (ht : P.underlying t = some (.slice e)) (hz : sizeOf1 P e = some z) (h0 : 0 ≤ i) (h1 : i < n) :
    ixaV P t (.slice (some a) n c) (.int kk i) = some (.pointer (some (a.add (i.toNat * z)))) := by simp [ixaV, ht, hz, h0, h1]
theorem ixaV_array {e : TypeId} {z n : Nat} (a : Addr) (kk : IntKind) (i : Int) (ht : P.underlying t = some (.array n e)) (hz : sizeOf1 P e = some z) (h0 : 0 ≤ i) (h1 : i < n) :
    ixaV P t (.pointer (some a)) (.int kk i) = some (.pointer (some (a.add (i.toNat * z)))) := by simp [ixaV, ht, hz, h0, h1]
theorem ldV_one (a : Addr) (h : shapeOf P t = some none) : ldV P w t (.pointer (some a)) = w.cell? a := by simp [ldV, h]
theorem lenV_str (b : ByteArray) (h : P.underlying t = some .string) : lenV P t (.string b) = some (.int .i64 b.size) := by simp [lenV, h]
theorem lenV_slice {e : TypeId} (a : Option Addr) (n c : Nat) (h : P.underlying t = some (.slice e)) : lenV P t (.slice a n c) = some (.int .i64 n) := by simp [lenV, h]
end
@[go_sem] theorem lenA_one (t : TypeId) (x : Value) : lenA P #[t] #[x] = lenV P t x := rfl
@[go_sem] theorem resV_one (v : Value) : resV [v] = v := rfl
@[go_sem] theorem resV_nil : resV [] = .tuple #[] := rfl
@[go_sem] theorem resV_two (u v : Value) (r : List Value) : resV (u :: v :: r) = .tuple (u :: v :: r).toArray := rfl
section
variable {R : Ending → World → Prop} {f : Fr} {w : World}
@[go_sem] theorem retQ_ret (rs : List ResultVar) : retQ P rs.toArray R .ret f w = retS (resL P rs f w) R w := rfl
@[go_sem] theorem retQ_normal (rs : List ResultVar) : retQ P rs.toArray R .normal f w = retS (resL P rs f w) R w := rfl
@[go_sem] theorem retK_ret (R : Value → World → Prop) (rs : List ResultVar) : retK P rs.toArray R .ret f w = retV (resL P rs f w) R w := rfl
@[go_sem] theorem retK_normal (R : Value → World → Prop) (rs : List ResultVar) : retK P rs.toArray R .normal f w = retV (resL P rs f w) R w := rfl
@[go_sem] theorem retV_some (l : List Value) (R : Value → World → Prop) : retV (some l) R w = R (resV l) w := rfl
@[go_sem] theorem resL_nil : resL P [] f w = some [] := rfl
@[go_sem] theorem resL_one (t : Nat) : resL P [.tmp t] f w = some [f t] := rfl
@[go_sem] theorem resL_two (t u : Nat) : resL P [.tmp t, .tmp u] f w = some [f t, f u] := rfl
@[go_sem] theorem resL_three (t u v : Nat) : resL P [.tmp t, .tmp u, .tmp v] f w = some [f t, f u, f v] := rfl
end

/-! ### a region that draws its order -/
def pickV (c x y : Value) : Option Value := match c with
  | .bool d => some (if d = true then x else y)
  | _ => none
def goR (P : Program) (S : World → Prop) (K : Fr → World → Prop) (r : List (Nat × MI)) (d : Option Nat) (f : Fr) : Value → World → Prop := fun v w' => RD P S K r (updo f d v) w'
def goE (P : Program) (S : World → Prop) (K : Fr → World → Prop) (r : List (Nat × MI)) (d : Option Nat) (f : Fr) : Value → World → Prop := fun v w' => S w' ∧ (S w' → RD P S K r (updo f d v) w')
def isB (v : Value) (b : Bool) : Bool := match v with
  | .bool c => c == b
  | _ => false
def gdP (v : Value) (b : Bool) (P : Program) (S : World → Prop) (K : Fr → World → Prop) (d : Option Nat) (op : Op) (r : List (Nat × MI)) (f : Fr) (w : World) : Prop :=
  if isB v b = true then optW (pvOf P op f) (goR P S K r d f) w else RD P S K r (updo f d undef) w
def gdE (v : Value) (b : Bool) (P : Program) (S : World → Prop) (K : Fr → World → Prop) (d : Option Nat) (op : Op) (ty : TypeId) (r : List (Nat × MI)) (f : Fr) (w : World) : Prop :=
  if isB v b = true then stepK P op ty f w (goE P S K r d f) else S w ∧ RD P S K r (updo f d undef) w
def gdL (v : Value) (b : Bool) (P : Program) (S : World → Prop) (K : Fr → World → Prop) (d : Option Nat) (op : Op) (ty : TypeId) (r : List (Nat × MI)) (f : Fr) (w : World) : Prop :=
  if isB v b = true then stepK P op ty f w (goR P S K r d f) else RD P S K r (updo f d undef) w
def hldK (P : Program) (S : World → Prop) (K : Fr → World → Prop) (d : Option Nat) (op : Op) (ty : TypeId) (r : List (Nat × MI)) (f : Fr) (w : World) : Prop :=
  S w ∧ ∃ v, (∀ w', S w' → stepK P op ty f w' fun u w'' => u = v ∧ w'' = w') ∧ RD P S K r (updo f d v) w
def gdH (v : Value) (b : Bool) (P : Program) (S : World → Prop) (K : Fr → World → Prop) (d : Option Nat) (op : Op) (ty : TypeId) (r : List (Nat × MI)) (f : Fr) (w : World) : Prop :=
  if isB v b = true then hldK P S K d op ty r f w else S w ∧ RD P S K r (updo f d undef) w
section
variable {K : Fr → World → Prop} {S : World → Prop} {Q : Exit → Fr → World → Prop} {f : Fr} {w : World} {k : Value → World → Prop} {ty : TypeId}
@[go_sem ↓] theorem WM_drw (l : List (Bool × List (Nat × MI))) : WM P (.drw l) Q f w = RG P (Q .normal) l f w.drew := rfl
@[go_sem ↓] theorem WM_frk (l : List (Nat × MI)) (t : DT) : WM P (.frk l t) Q f w = frS P (Q .normal) l t f w.drew := rfl
@[go_sem ↓] theorem DTK_fin : DTK P S K .fin f w = K f w := rfl
@[go_sem ↓] theorem DTK_fork (m1 : MI) (l1 : List (Nat × MI)) (t1 : DT) (m2 : MI) (l2 : List (Nat × MI)) (t2 : DT) : DTK P S K (.fork m1 l1 t1 m2 l2 t2) f w = frkK P (shS S (RD P S (DTK P S K t1) l1)) (shS S (RD P S (DTK P S K t2) l2)) m1 m2 f w := rfl
theorem frk_intro {A B : Fr → World → Prop} {m1 m2 : MI} (h1 : RL P A [m1] f w) (h2 : RL P B [m2] f w) : frkK P A B m1 m2 f w := ⟨h1, h2⟩
theorem shs_intro {A : Fr → World → Prop} (h1 : S w) (h2 : A f w) : shS S A f w := ⟨h1, fun _ => h2⟩
theorem frs_intro {l : List (Nat × MI)} {t : DT} (S : World → Prop) (h0 : S w) (h : RD P S (DTK P S K t) l f w) : frS P K l t f w := ⟨S, h0, h⟩
@[go_sem ↓] theorem RG_nil : RG P K [] f w = K f w := rfl
@[go_sem ↓] theorem RG_free (l : List (Nat × MI)) (r : List (Bool × List (Nat × MI))) : RG P K ((false, l) :: r) f w = RD P TS (RG P K r) l f w := rfl
theorem seg_intro {l : List (Nat × MI)} {r : List (Bool × List (Nat × MI))} (S : World → Prop) (h0 : S w) (h : RD P S (RG P K r) l f w) : RG P K ((true, l) :: r) f w := ⟨S, h0, h⟩
@[go_sem ↓] theorem RD_nil : RD P S K [] f w = K f w := rfl
@[go_sem] theorem goR_some (r : List (Nat × MI)) (d : Nat) (v : Value) : goR P S K r (some d) f v w = RD P S K r (upd f d v) w := rfl
@[go_sem] theorem goR_none (r : List (Nat × MI)) (v : Value) : goR P S K r none f v w = RD P S K r f w := rfl
@[go_sem] theorem goE_some (r : List (Nat × MI)) (d : Nat) (v : Value) : goE P TS K r (some d) f v w = RD P TS K r (upd f d v) w := by simp [goE, TS, updo]
@[go_sem] theorem goE_none (r : List (Nat × MI)) (v : Value) : goE P TS K r none f v w = RD P TS K r f w := by simp [goE, TS, updo]
theorem goE_intro0 {r : List (Nat × MI)} {v : Value} (h0 : S w) (h : RD P S K r f w) : goE P S K r none f v w := ⟨h0, fun _ => h⟩
theorem goE_intro {r : List (Nat × MI)} {d : Nat} {v : Value} (h0 : S w) (h : RD P S K r (upd f d v) w) : goE P S K r (some d) f v w := ⟨h0, fun _ => h⟩
@[go_sem] theorem RD_p (d : Option Nat) (op : Op) (r : List (Nat × MI)) : RD P S K ((0, ⟨d, none, op, ty⟩) :: r) f w = optW (pvOf P op f) (goR P S K r d f) w := rfl
@[go_sem] theorem RD_pg (d : Option Nat) (s : Nat) (b : Bool) (op : Op) (r : List (Nat × MI)) : RD P S K ((0, ⟨d, some (s, b), op, ty⟩) :: r) f w = gdP (f s) b P S K d op r f w := rfl
@[go_sem] theorem RD_e (d : Option Nat) (op : Op) (r : List (Nat × MI)) : RD P S K ((2, ⟨d, none, op, ty⟩) :: r) f w = stepK P op ty f w (goE P S K r d f) := rfl
@[go_sem] theorem RD_eg (d : Option Nat) (s : Nat) (b : Bool) (op : Op) (r : List (Nat × MI)) : RD P S K ((2, ⟨d, some (s, b), op, ty⟩) :: r) f w = gdE (f s) b P S K d op ty r f w := rfl
@[go_sem] theorem RD_l (d : Option Nat) (op : Op) (r : List (Nat × MI)) : RD P S K ((3, ⟨d, none, op, ty⟩) :: r) f w = stepK P op ty f w (goR P S K r d f) := rfl
@[go_sem] theorem RD_lg (d : Option Nat) (s : Nat) (b : Bool) (op : Op) (r : List (Nat × MI)) : RD P S K ((3, ⟨d, some (s, b), op, ty⟩) :: r) f w = gdL (f s) b P S K d op ty r f w := rfl
@[go_sem] theorem RD_h (d : Option Nat) (op : Op) (r : List (Nat × MI)) : RD P S K ((1, ⟨d, none, op, ty⟩) :: r) f w = hldK P S K d op ty r f w := rfl
@[go_sem] theorem RD_hg (d : Option Nat) (s : Nat) (b : Bool) (op : Op) (r : List (Nat × MI)) : RD P S K ((1, ⟨d, some (s, b), op, ty⟩) :: r) f w = gdH (f s) b P S K d op ty r f w := rfl
/-- What is held yields one value wherever S holds. -/
theorem hld_intro {d : Nat} {op : Op} {r : List (Nat × MI)} (v : Value) (h0 : S w) (h : ∀ w', S w' → stepK P op ty f w' fun u w'' => u = v ∧ w'' = w') (hr : RD P S K r (upd f d v) w) : hldK P S K (some d) op ty r f w := ⟨h0, v, h, hr⟩
section
variable (d : Nat) (op : Op) (ty : TypeId) (r : List (Nat × MI)) (c : Bool)
@[go_sem] theorem gdP_on : gdP (.bool c) c P S K (some d) op r f w = optW (pvOf P op f) (goR P S K r (some d) f) w := by cases c <;> rfl
@[go_sem] theorem gdP_tf : gdP (.bool true) false P S K (some d) op r f w = RD P S K r (upd f d undef) w := rfl
@[go_sem] theorem gdP_ft : gdP (.bool false) true P S K (some d) op r f w = RD P S K r (upd f d undef) w := rfl
@[go_sem] theorem gdE_on : gdE (.bool c) c P S K (some d) op ty r f w = stepK P op ty f w (goE P S K r (some d) f) := by cases c <;> rfl
@[go_sem] theorem gdE_tf : gdE (.bool true) false P TS K (some d) op ty r f w = RD P TS K r (upd f d undef) w := by show (True ∧ _) = _; simp [updo]
@[go_sem] theorem gdE_ft : gdE (.bool false) true P TS K (some d) op ty r f w = RD P TS K r (upd f d undef) w := by show (True ∧ _) = _; simp [updo]
@[go_sem] theorem gdL_on : gdL (.bool c) c P S K (some d) op ty r f w = stepK P op ty f w (goR P S K r (some d) f) := by cases c <;> rfl
@[go_sem] theorem gdL_tf : gdL (.bool true) false P S K (some d) op ty r f w = RD P S K r (upd f d undef) w := rfl
@[go_sem] theorem gdL_ft : gdL (.bool false) true P S K (some d) op ty r f w = RD P S K r (upd f d undef) w := rfl
@[go_sem] theorem gdH_on : gdH (.bool c) c P S K (some d) op ty r f w = hldK P S K (some d) op ty r f w := by cases c <;> rfl
end
theorem gdH_off {v : Value} {b : Bool} {d : Nat} {op : Op} {r : List (Nat × MI)} (hv : v = .bool (!b)) (h0 : S w) (h : RD P S K r (upd f d undef) w) : gdH v b P S K (some d) op ty r f w := by
  subst hv; cases b <;> exact ⟨h0, h⟩
theorem gdE_off {v : Value} {b : Bool} {d : Nat} {op : Op} {r : List (Nat × MI)} (hv : v = .bool (!b)) (h0 : S w) (h : RD P S K r (upd f d undef) w) : gdE v b P S K (some d) op ty r f w := by
  subst hv; cases b <;> exact ⟨h0, h⟩
end
section
variable (f : Fr)
@[go_sem] theorem pv_move (x : Operand) : pvOf P (.move x) f = some (ev f x) := rfl
@[go_sem] theorem pv_assign (x : Operand) : pvOf P (.assign x) f = some (ev f x) := rfl
@[go_sem] theorem pv_pick (c a b : Operand) : pvOf P (.pick c a b) f = pickV (ev f c) (ev f a) (ev f b) := rfl
@[go_sem] theorem pickV_bool (d : Bool) (x y : Value) : pickV (.bool d) x y = some (if d = true then x else y) := rfl
@[go_sem] theorem pv_nil (x : Operand) : pvOf P (.nilCheck x) f = nilV (ev f x) := rfl
@[go_sem] theorem pv_bin (op : BinOp) (t : TypeId) (x y : Operand) (yt : TypeId) : pvOf P (.binOp op t x y yt) f = binV P op t (ev f x) (ev f y) := rfl
@[go_sem] theorem pv_un (op : UnOp) (t : TypeId) (x : Operand) : pvOf P (.unOp op t x) f = unV op (ev f x) := rfl
@[go_sem] theorem pv_conv (s t : TypeId) (x : Operand) : pvOf P (.convert s t x) f = cvV P s t (ev f x) := rfl
@[go_sem] theorem pv_ext (x : Operand) (i : Nat) : pvOf P (.extract x i) f = extV i (ev f x) := rfl
@[go_sem] theorem pv_fld (s : TypeId) (x : Operand) (i : Nat) : pvOf P (.fieldAddr s x i) f = fldV P s i (ev f x) := rfl
@[go_sem] theorem pv_ixa (t : TypeId) (x i : Operand) : pvOf P (.indexAddr t x i) f = ixaV P t (ev f x) (ev f i) := rfl
@[go_sem] theorem pv_slc (t : TypeId) (x : Operand) (lo hi mx : Option Operand) : pvOf P (.slice t x lo hi mx) f = slcV P t (ev f x) (lo.map (ev f)) (hi.map (ev f)) (mx.map (ev f)) := rfl
@[go_sem] theorem pv_mkf (fn : Fn) (a b : Array Operand) : pvOf P (.makeFunc fn a b) f = some (Value.func fn (a.map (ev f)) (b.map (ev f))) := rfl
@[go_sem] theorem pv_bld (t : TypeId) (ps : Array (Nat × Operand)) : pvOf P (.build t ps) f = bldV P t (ps.map fun p => (p.1, ev f p.2)) := rfl
@[go_sem] theorem pv_len (args : Array Operand) (ats : Array TypeId) : pvOf P (.call { callee := .builtin .len, args := args, argTypes := ats }) f = lenA P ats (args.map (ev f)) := rfl
end
section
variable (op : BinOp) (t : TypeId) (kk : IntKind) (a b : Int)
@[go_sem] theorem bv_add : binV P .add t (.int kk a) (.int kk b) = some (.int kk (kk.wrap (a + b))) := by simp [binV, binI]
@[go_sem] theorem bv_sub : binV P .sub t (.int kk a) (.int kk b) = some (.int kk (kk.wrap (a - b))) := by simp [binV, binI]
@[go_sem] theorem bv_mul : binV P .mul t (.int kk a) (.int kk b) = some (.int kk (kk.wrap (a * b))) := by simp [binV, binI]
@[go_sem] theorem bv_quo (h : ¬ b = 0) : binV P .quo t (.int kk a) (.int kk b) = some (.int kk (kk.wrap (a.tdiv b))) := by simp [binV, binI, h]
@[go_sem] theorem bv_rem (h : ¬ b = 0) : binV P .rem t (.int kk a) (.int kk b) = some (.int kk (a.tmod b)) := by simp [binV, binI, h]
@[go_sem] theorem bv_and : binV P .and t (.int kk a) (.int kk b) = some (.int kk (bits .and kk a b)) := by simp [binV, binI]
@[go_sem] theorem bv_or : binV P .or t (.int kk a) (.int kk b) = some (.int kk (bits .or kk a b)) := by simp [binV, binI]
@[go_sem] theorem bv_xor : binV P .xor t (.int kk a) (.int kk b) = some (.int kk (bits .xor kk a b)) := by simp [binV, binI]
@[go_sem] theorem bv_shl (k2 : IntKind) (h : ¬ b < 0) : binV P .shl t (.int kk a) (.int k2 b) = some (.int kk (kk.wrap (a * 2 ^ min b.toNat kk.bits))) := by simp [binV, h]
@[go_sem] theorem bv_shr (k2 : IntKind) (h : ¬ b < 0) : binV P .shr t (.int kk a) (.int k2 b) = some (.int kk (a / 2 ^ min b.toNat kk.bits)) := by simp [binV, h]
@[go_sem] theorem bv_eql : binV P .eql t (.int kk a) (.int kk b) = some (.bool (a == b)) := by simp [binV, binI, cmpI]
@[go_sem] theorem bv_neq : binV P .neq t (.int kk a) (.int kk b) = some (.bool (a != b)) := by simp [binV, binI, cmpI]
@[go_sem] theorem bv_lss : binV P .lss t (.int kk a) (.int kk b) = some (.bool (decide (a < b))) := by simp [binV, binI, cmpI]
@[go_sem] theorem bv_leq : binV P .leq t (.int kk a) (.int kk b) = some (.bool (decide (a ≤ b))) := by simp [binV, binI, cmpI]
@[go_sem] theorem bv_gtr : binV P .gtr t (.int kk a) (.int kk b) = some (.bool (decide (b < a))) := by simp [binV, binI, cmpI]
@[go_sem] theorem bv_geq : binV P .geq t (.int kk a) (.int kk b) = some (.bool (decide (b ≤ a))) := by simp [binV, binI, cmpI]
@[go_sem] theorem bv_beq (p q : Bool) (h : isBool P t = true) : binV P .eql t (.bool p) (.bool q) = some (.bool (p == q)) := by simp [binV, h]
@[go_sem] theorem bv_bne (p q : Bool) (h : isBool P t = true) : binV P .neq t (.bool p) (.bool q) = some (.bool (!(p == q))) := by simp [binV, h]
@[go_sem] theorem bv_seq (p q : ByteArray) : binV P .eql t (.string p) (.string q) = some (.bool (p.toList == q.toList)) := rfl
@[go_sem] theorem bv_sne (p q : ByteArray) : binV P .neq t (.string p) (.string q) = some (.bool (!(p.toList == q.toList))) := rfl
end
/-- Where a slice that was cut off at l begins. -/
def cutA (A : Option Addr) (l c s : Nat) : Option Addr := if c = l then A else A.map (·.add (l * s))
theorem add_zero' (a : Addr) : a.add 0 = a := by simp [Addr.add]
theorem cutA_zero (A : Option Addr) (c s : Nat) : (if c = 0 then A else A.map (·.add (0 * s))) = A := by
  rw [Nat.zero_mul]
  cases A <;> simp [add_zero']
section
variable {t e : TypeId} {z : Nat} {w : World} {k : Value → World → Prop}
theorem slcV_hi (A : Option Addr) (n c : Nat) (kk : IntKind) (h : Int) (ht : P.underlying t = some (.slice e)) (hz : sizeOf1 P e = some z) (h0 : 0 ≤ h) (h1 : h ≤ c) :
    slcV P t (.slice A n c) none (some (.int kk h)) none = some (.slice A h.toNat c) := by
  have : h.toNat ≤ c := by omega
  simp [slcV, ht, hz, bndV, h0, this, sliced]
  intro _; cases A <;> simp [add_zero']
theorem slcV_lo (A : Option Addr) (n c : Nat) (kk : IntKind) (l : Int) (ht : P.underlying t = some (.slice e)) (hz : sizeOf1 P e = some z) (h0 : 0 ≤ l) (h1 : l ≤ n) (hc : n ≤ c) :
    slcV P t (.slice A n c) (some (.int kk l)) none none = some (.slice (cutA A l.toNat c z) (n - l.toNat) (c - l.toNat)) := by
  have : l.toNat ≤ n := by omega
  simp [slcV, ht, hz, bndV, h0, this, hc, sliced, cutA]
theorem slcV_lh (A : Option Addr) (n c : Nat) (kk k2 : IntKind) (l h : Int) (ht : P.underlying t = some (.slice e)) (hz : sizeOf1 P e = some z) (h0 : 0 ≤ l) (h1 : l ≤ h) (hc : h ≤ c) :
    slcV P t (.slice A n c) (some (.int kk l)) (some (.int k2 h)) none = some (.slice (cutA A l.toNat c z) (h.toNat - l.toNat) (c - l.toNat)) := by
  have h2 : l.toNat ≤ h.toNat := by omega
  have h3 : h.toNat ≤ c := by omega
  have h4 : 0 ≤ h := by omega
  simp [slcV, ht, hz, bndV, h0, h2, h3, h4, sliced, cutA]
theorem slcK_eq {x : Value} {lo hi mx : Option Value} {v : Value} (h : slcV P t x lo hi mx = some v) : slcK P t x lo hi mx w k = k v w := by
  refine propext ⟨fun hk => ?_, fun hk => slcK_of h hk⟩
  obtain ⟨v', w', hr, hk⟩ := hk
  obtain ⟨v2, w2, hr2, e⟩ := slcK_of (w := w) (k := fun u w'' => u = v ∧ w'' = w) h ⟨rfl, rfl⟩
  rw [hr] at hr2
  cases hr2
  obtain ⟨rfl, rfl⟩ := e
  exact hk
theorem cvV_int {s : TypeId} (kk k' : IntKind) (n : Int) (hs : (P.underlying s).isSome = true) (ht : P.underlying t = some (.int kk)) : cvV P s t (.int k' n) = some (.int kk (kk.wrap n)) := by
  obtain ⟨d, hd⟩ := Option.isSome_iff_exists.1 hs
  simp [cvV, hd, ht]
end
end Go.Proofs.Ytnlibeaainbipaa.M
