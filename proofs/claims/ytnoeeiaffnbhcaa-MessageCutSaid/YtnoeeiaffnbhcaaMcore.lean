/- A walk over loaded code whose frames are functions from slots to values: what is shown of such a walk holds of the machine's own call. Conditions: none beyond those that each theorem names. -/
import Derived.WalkKit
import Derived.Deep.LoopGhost
import Derived.OrdersHeld
import Derived.Deep.RegionHeld3
import Derived.Maps.AppendAt
import Derived.Test.YtnoeeiaffnbhcaaWLast
namespace Go.Proofs.Ytnoeeiaffnbhcaa.M
open Go.Proofs.YtnoeeiaffnbhcaaW.PrintLast

/-! ### frames -/
abbrev Fr := Nat → Value
def upd (f : Fr) (d : Nat) (v : Value) : Fr := fun t => if t = d then v else f t
theorem upd_at (f : Fr) (d : Nat) (v : Value) (t : Nat) : upd f d v t = if t = d then v else f t := rfl
def updo (f : Fr) (d : Option Nat) (v : Value) : Fr := match d with
  | some d => upd f d v
  | none => f
theorem updo_some (f : Fr) (d : Nat) (v : Value) : updo f (some d) v = upd f d v := rfl
theorem updo_none (f : Fr) (v : Value) : updo f none v = f := rfl
def ev (f : Fr) : Operand → Value
  | .tmp t => f t
  | .const v => v
  | .global g => .pointer (some ⟨g, 0, none⟩)
  | .func g => .func (.func g) #[] #[]
theorem ev_tmp (f : Fr) (t : Nat) : ev f (.tmp t) = f t := rfl
theorem ev_const (f : Fr) (v : Value) : ev f (.const v) = v := rfl
theorem ev_func (f : Fr) (g : Nat) : ev f (.func g) = .func (.func g) #[] #[] := rfl

structure Sim (n : Nat) (a : Act) (f : Fr) : Prop where
  size : a.tmps.size = n
  get : ∀ t, a.tmps.getD t undef = f t
  defers : a.defers = []
theorem Sim.eval {n : Nat} {a : Act} {f : Fr} (h : Sim n a f) : a.eval = ev f := by
  funext x
  cases x with
  | tmp t => exact h.get t
  | _ => rfl
def dOk (n : Nat) (d : Option Nat) : Bool := match d with
  | some d => decide (d < n)
  | none => true
theorem Sim.put {n : Nat} {a : Act} {f : Fr} (h : Sim n a f) {d : Option Nat} (hd : dOk n d = true) (v : Value) : Sim n (a.put d v) (updo f d v) := by
  cases d with
  | none => exact h
  | some d =>
    have hd : d < n := by simpa [dOk] using hd
    refine ⟨by simp [Act.put, h.size], fun t => ?_, h.defers⟩
    have := h.get t
    simp only [Act.put, updo, upd]
    by_cases e : t = d
    · subst e
      rw [if_pos rfl]
      simp [Array.getD_eq_getD_getElem?, h.size, hd]
    · rw [if_neg e]
      rw [← this]
      simp [Array.getD_eq_getD_getElem?, Array.getElem?_setIfInBounds_ne (Ne.symm e)]

/-! ### what stands in for the code -/
/-- One operation: where it writes, when it is wanted (a slot, and what it must hold), what it does, of which type. -/
structure MI where
  dst : Option Nat
  gd : Option (Nat × Bool)
  op : Op
  ty : TypeId
/-- How a region goes on where two events may come up. -/
inductive DT where
  | fin
  | fork (m1 : MI) (l1 : List (Nat × MI)) (t1 : DT) (m2 : MI) (l2 : List (Nat × MI)) (t2 : DT)
inductive MC where
  | skip
  | ret
  | exit (id : Nat)
  | reg (l : List MI)
  | drw (l : List (Bool × List (Nat × MI)))
  | frk (l : List (Nat × MI)) (t : DT)
  | seq (a b : MC)
  | cond (c : Operand) (a b : MC)
  | blk (id : Nat) (c : MC)
  | loop (c : MC)

/-- It comes to a value, if to anything. -/
def isVal : Op → Bool
  | .move _ | .assign _ | .pick _ _ _ | .nilCheck _ | .binOp _ _ _ _ _ | .unOp _ _ _ | .convert _ _ _ | .extract _ _ | .fieldAddr _ _ _ | .indexAddr _ _ _ | .slice _ _ _ _ _ | .load _ _ | .makeFunc _ _ _ | .box _ _ => true
  | .buildSlice _ _ _ | .build _ _ | .alloc _ | .field _ _ _ | .index _ _ _ | .makeSlice _ _ _ | .makeMap _ _ | .lookup _ _ _ _ | .range _ _ | .next _ _ | .entry _ => true
  | .call c => match c.callee with
    | .builtin .len | .builtin .append | .builtin .copy | .builtin .delete | .builtin .cap | .builtin .min | .builtin .max => true
    | _ => false
  | _ => false
def hasBody (P : Program) (g : Nat) : Bool := match P.funcs[g]? with
  | some fn => fn.body.isSome && !(fn.name == "runtime.NumGoroutine")
  | none => false
/-- Nothing is selected. -/
def opOk (_P : Program) : Op → Bool
  | .select .. => false
  | _ => true
def gdOf (all : Array Oper) : Option (Nat × Bool) → Option (Option (Nat × Bool))
  | none => some none
  | some (j, b) => match (all[j]?).bind (·.dst) with
    | some d => some (some (d, b))
    | none => none
def miOf (P : Program) (n : Nat) (all : Array Oper) (o : Oper) : Option MI :=
  if dOk n o.dst && opOk P o.op then (gdOf all o.guard).map fun g => ⟨o.dst, g, o.op, o.type⟩ else none
def misOf (P : Program) (n : Nat) (all : Array Oper) : List Oper → Option (List MI)
  | [] => some []
  | o :: r => match miOf P n all o, misOf P n all r with
    | some m, some l => some (m :: l)
    | _, _ => none
/-- The order in which a region that draws is walked: (0: it yields in every world · 1: it yields in every world that is held · 2: an event, which alone may come up · 3: such a one behind which nothing is held, number). -/
def planGood (all : Array Oper) (ds : List Nat) (l : Array Bool) (q i : Nat) : Bool := match q with
  | 0 => anyB .any all l (l.setIfInBounds i true) i && (all[i]?).any (fun o => isVal o.op)
  | 1 => takeB .any all ds l (l.setIfInBounds i true) i && (all[i]?).any (fun o => isVal o.op)
  | 2 => readyB .any all l (l.setIfInBounds i true) i && !ds.contains i
  | _ => readyB .any all l (l.setIfInBounds i true) i && ds.contains i
def planOf (P : Program) (n : Nat) (all : Array Oper) (ds : List Nat) (l : Array Bool) : List (Nat × Nat) → Option (List (Nat × MI) × Array Bool)
  | [] => some ([], l)
  | (q, i) :: r =>
    if planGood all ds l q i = true then match (all[i]?).bind (miOf P n all), planOf P n all ds (l.setIfInBounds i true) r with
      | some m, some t => some ((q, m) :: t.1, t.2)
      | _, _ => none
    else none
/-- What has not come up yet is of ds. -/
def endB (all : Array Oper) (ds : List Nat) (l : Array Bool) : Bool := (List.range all.size).all fun j => l.getD j false || ds.contains j
/-- The parts in which such a region is walked: (is something held?, what comes behind, the order). -/
def segsOf (P : Program) (n : Nat) (all : Array Oper) (l : Array Bool) : List (Bool × List Nat × List (Nat × Nat)) → Option (List (Bool × List (Nat × MI)))
  | [] => if Region.ready .any all l == [] then some [] else none
  | (b, ds, p) :: r => match planOf P n all ds l p with
    | some (t, l') => if endB all ds l' = true then (segsOf P n all l' r).map ((b, t) :: ·) else none
    | none => none
def lens : List (Bool × List Nat × List (Nat × Nat)) → Nat
  | [] => 0
  | (_, _, p) :: r => p.length + lens r
/-- How such a region is walked: behind either of two events. -/
inductive PF where
  | fin
  | fork (i1 : Nat) (p1 : List (Nat × Nat)) (t1 : PF) (i2 : Nat) (p2 : List (Nat × Nat)) (t2 : PF)
inductive PN where
  | seg (p : List (Bool × List Nat × List (Nat × Nat)))
  | frk (ds : List Nat) (p : List (Nat × Nat)) (t : PF)
def szF : PF → Nat
  | .fin => 0
  | .fork _ p1 t1 _ _ _ => (p1.length + szF t1) + 1
def dtOf (P : Program) (n : Nat) (all : Array Oper) (ds : List Nat) : Array Bool → PF → Option DT
  | l, .fin => if Region.ready .any all l == [] then some .fin else none
  | l, .fork i1 p1 t1 i2 p2 t2 =>
    if (Region.ready .any all l == []) = false ∧ ((Region.ready .any all l).all fun i => i == i1 || i == i2) = true ∧ p1.length + szF t1 = p2.length + szF t2 then
      match (all[i1]?).bind (miOf P n all), (all[i2]?).bind (miOf P n all), planOf P n all ds (l.setIfInBounds i1 true) p1, planOf P n all ds (l.setIfInBounds i2 true) p2 with
      | some m1, some m2, some (l1, e1), some (l2, e2) => match dtOf P n all ds e1 t1, dtOf P n all ds e2 t2 with
        | some a, some b => some (.fork m1 l1 a m2 l2 b)
        | _, _ => none
      | _, _, _, _ => none
    else none
def mcOf (P : Program) (n : Nat) (plans : List (Nat × PN)) : Code → Option MC
  | .skip => some .skip
  | .ret => some .ret
  | .exit i => some (.exit i)
  | .region _ ops false => (misOf P n ops ops.toList).map .reg
  | .region id ops true => match plans.find? (·.1 == id) with
    | some (_, .seg p) => if lens p == ops.size then (segsOf P n ops (Array.replicate ops.size false) p).map .drw else none
    | some (_, .frk ds p t) => if p.length + szF t == ops.size then match planOf P n ops ds (Array.replicate ops.size false) p with
      | some (r, e) => (dtOf P n ops ds e t).map (.frk r)
      | none => none
      else none
    | none => none
  | .seq x y => match mcOf P n plans x, mcOf P n plans y with
    | some a, some b => some (.seq a b)
    | _, _ => none
  | .cond c x y => match mcOf P n plans x, mcOf P n plans y with
    | some a, some b => some (.cond c a b)
    | _, _ => none
  | .block id x => (mcOf P n plans x).map (.blk id)
  | .loop x => (mcOf P n plans x).map .loop
  | _ => none

/-! ### how a value is told -/
def optK {α : Type} (o : Option α) (k : α → Prop) : Prop := match o with
  | some a => k a
  | none => False
def optW (o : Option Value) (k : Value → World → Prop) (w : World) : Prop := match o with
  | some v => k v w
  | none => False
theorem optW_some (v : Value) (k : Value → World → Prop) (w : World) : optW (some v) k w = k v w := rfl
def stW (o : Option World) (k : Value → World → Prop) : Prop := match o with
  | some w => k undef w
  | none => False
theorem stW_some (w : World) (k : Value → World → Prop) : stW (some w) k = k undef w := rfl
def runK (P : Program) (s : Sem Value) (w : World) (k : Value → World → Prop) : Prop := ∃ v w', s.run P w = .ok v w' ∧ k v w'
def runU (P : Program) (s : Sem Unit) (w : World) (k : Value → World → Prop) : Prop := ∃ w', s.run P w = .ok () w' ∧ k undef w'
theorem runU_of {P : Program} {s : Sem Unit} {w w' : World} {k : Value → World → Prop} (h : s.run P w = .ok () w') (hk : k undef w') : runU P s w k := ⟨w', h, hk⟩
theorem runK_of {P : Program} {s : Sem Value} {w w' : World} {v : Value} {k : Value → World → Prop} (h : s.run P w = .ok v w') (hk : k v w') : runK P s w k := ⟨v, w', h, hk⟩
/-- A call by number: of a body by its contract, of what stands outside by its run. -/
def callK (P : Program) (g : Nat) (args : Array Value) (w : World) (k : Value → World → Prop) : Prop :=
  if hasBody P g = true then Calls P g args w fun e w' => ∃ v, e = .returned v ∧ k v w' else ∃ v w', (callFunc g args).run P w = .ok (.value v) w' ∧ k v w'
def pickW (c x y : Value) (k : Value → World → Prop) (w : World) : Prop := match c with
  | .bool b => k (if b = true then x else y) w
  | _ => False
theorem pickW_bool (b : Bool) (x y : Value) (k : Value → World → Prop) (w : World) : pickW (.bool b) x y k w = k (if b = true then x else y) w := rfl

def shapeOf (P : Program) (t : TypeId) : Option (Option Nat) := match P.underlying t, P.info? t with
  | some (.struct _), some i => some (some i.size)
  | some (.array _ _), some i => some (some i.size)
  | some _, some _ => some none
  | _, _ => none
def cellsAt (w : World) (a : Addr) (i : Nat) : Nat → Option (List Value)
  | 0 => some []
  | n + 1 => match w.cell? (a.add i), cellsAt w a (i + 1) n with
    | some v, some l => some (v :: l)
    | _, _ => none
def ldV (P : Program) (w : World) (t : TypeId) : Value → Option Value
  | .pointer (some a) => match shapeOf P t with
    | some none => w.cell? a
    | some (some n) => (cellsAt w a 0 n).map fun l => .agg l.toArray
    | none => none
  | _ => none
def stCells (w : World) (a : Addr) (i : Nat) : List Value → Option World
  | [] => some w
  | v :: r => if (w.cell? (a.add i)).isSome && !w.frozen? (a.add i) && v.oneCell' then stCells (w.setCell (a.add i) v) a (i + 1) r else none
def sizeOf1 (P : Program) (t : TypeId) : Option Nat := (P.info? t).map (·.size)
def stV (P : Program) (w : World) (t : TypeId) : Value → Value → Option World
  | .pointer (some a), v => if sizeOf1 P t = some v.cells.size then stCells w a 0 v.cells.toList else none
  | _, _ => none
def fOff (P : Program) (s : TypeId) (i : Nat) : Option Nat := match P.underlying s with
  | some (.struct fs) => match fs[i]? with
    | some f => match sizeOf1 P f.type with
      | some 0 => none
      | some _ => some f.offset
      | none => none
    | none => none
  | _ => none
def fldV (P : Program) (s : TypeId) (i : Nat) : Value → Option Value
  | .pointer (some a) => (fOff P s i).map fun o => .pointer (some (a.add o))
  | _ => none
def ixaV (P : Program) (t : TypeId) (x ix : Value) : Option Value := match P.underlying t, x, ix with
  | some (.slice e), .slice (some a) n _, .int _ i => if 0 ≤ i ∧ i < n then (sizeOf1 P e).map fun s => .pointer (some (a.add (i.toNat * s))) else none
  | some (.array n e), .pointer (some a), .int _ i => if 0 ≤ i ∧ i < n then (sizeOf1 P e).map fun s => .pointer (some (a.add (i.toNat * s))) else none
  | _, _, _ => none
def nilV : Value → Option Value
  | .pointer (some a) => some (.pointer (some a))
  | .func (.func g) x y => some (.func (.func g) x y)
  | _ => none
def extV (i : Nat) : Value → Option Value
  | .tuple vs => vs[i]?
  | _ => none
def unV (op : UnOp) (x : Value) : Option Value := match op, x with
  | .not, .bool b => some (.bool !b)
  | .neg, .int k n => some (.int k (k.wrap (0 - n)))
  | .xor, .int k n => some (.int k (bits .xor k (if k.signed then -1 else k.max) n))
  | _, _ => none
def cmpI (op : BinOp) (x y : Int) : Option Value := match op with
  | .eql => some (.bool (x == y))
  | .neq => some (.bool (x != y))
  | .lss => some (.bool (decide (x < y)))
  | .leq => some (.bool (decide (x ≤ y)))
  | .gtr => some (.bool (decide (x > y)))
  | .geq => some (.bool (decide (x ≥ y)))
  | _ => none
def binI (op : BinOp) (k : IntKind) (a b : Int) : Option Value := match op with
  | .add => some (.int k (k.wrap (a + b)))
  | .sub => some (.int k (k.wrap (a - b)))
  | .mul => some (.int k (k.wrap (a * b)))
  | .quo => if b = 0 then none else some (.int k (k.wrap (a.tdiv b)))
  | .rem => if b = 0 then none else some (.int k (a.tmod b))
  | .and => some (.int k (bits .and k a b))
  | .or => some (.int k (bits .or k a b))
  | .xor => some (.int k (bits .xor k a b))
  | .andNot => some (.int k (bits .andNot k a b))
  | .shl | .shr => none
  | op => cmpI op a b
def isBool (P : Program) (t : TypeId) : Bool := match P.underlying t with
  | some .bool => true
  | _ => false
def binV (P : Program) (op : BinOp) (t : TypeId) (x y : Value) : Option Value := match op, x, y with
  | .shl, .int k a, .int _ b => if b < 0 then none else some (.int k (k.wrap (a * 2 ^ min b.toNat k.bits)))
  | .shr, .int k a, .int _ b => if b < 0 then none else some (.int k (a / 2 ^ min b.toNat k.bits))
  | op, .int k a, .int k' b => if k = k' then binI op k a b else none
  | .eql, .bool a, .bool b => if isBool P t = true then some (.bool (a == b)) else none
  | .neq, .bool a, .bool b => if isBool P t = true then some (.bool (!(a == b))) else none
  | .eql, .string a, .string b => some (.bool (a.toList == b.toList))
  | .neq, .string a, .string b => some (.bool (!(a.toList == b.toList)))
  | _, _, _ => none
def binK (P : Program) (op : BinOp) (t : TypeId) (x y : Operand) (u v : Value) (w : World) (k : Value → World → Prop) : Prop := match binV P op t u v with
  | some r => k r w
  | none => runK P (do eqGuard op t x y u v; binOp op t u v) w k
def lenV (P : Program) (t : TypeId) (x : Value) : Option Value := match P.underlying t, x with
  | some .string, .string s => some (.int .i64 s.size)
  | some (.slice _), .slice _ n _ => some (.int .i64 n)
  | some (.array n _), _ => some (.int .i64 n)
  | _, _ => none
def cvK (P : Program) (s t : TypeId) (x : Value) (w : World) (k : Value → World → Prop) : Prop := match P.underlying s, P.underlying t, x with
  | some _, some (.int kk), .int _ n => k (.int kk (kk.wrap n)) w
  | some _, some .string, .string b => k (.string b) w
  | _, _, x => runK P (convert s t x) w k
def slcK (P : Program) (t : TypeId) (x : Value) (lo hi mx : Option Value) (w : World) (k : Value → World → Prop) : Prop := runK P (Instr.sliceAt t x lo hi mx) w k
def fnK (P : Program) (fv : Value) (args : Array Value) (w : World) (k : Value → World → Prop) : Prop := match fv with
  | .func (.func g) first cap => hasBody P g = true ∧ callK P g (first ++ args ++ cap) w k
  | _ => False
def resK (r : Result Next) (k : Value → World → Prop) : Prop := match r with
  | .ok (.value v) w => k v w
  | .ok .skip w => k undef w
  | _ => False
def boxK (t : TypeId) (v : Value) (w : World) (k : Value → World → Prop) : Prop := k (.pointer (some ⟨w.heap.size, 0, none⟩)) (w.alloc (.cells v.cells t))
def appK (P : Program) (ats : Array TypeId) (ty : TypeId) (args : Array Value) (w : World) (k : Value → World → Prop) : Prop := runK P (Builtin.append_ ats ty args) w k

def bslK (P : Program) (t : TypeId) (n : Nat) (ps : Array (Nat × Value)) (w : World) (k : Value → World → Prop) : Prop := runK P (Instr.buildSlice t n ps) w k
def bldK (P : Program) (t : TypeId) (ps : Array (Nat × Value)) (w : World) (k : Value → World → Prop) : Prop := runK P (Instr.build t ps) w k
def lenA (P : Program) (ats : Array TypeId) (args : Array Value) : Option Value := match ats[0]?, args[0]? with
  | some t, some x => lenV P t x
  | _, _ => none
/-- The length: told by the value, or looked up. -/
def lenW (P : Program) (o : Option Value) (ats : Array TypeId) (ty : TypeId) (args : Array Value) (w : World) (k : Value → World → Prop) : Prop := match o with
  | some v => k v w
  | none => runK P (Builtin.len_ ats ty args) w k
def valS (P : Program) (x : Operand) (args : Array Value) (f : Fr) (w : World) (k : Value → World → Prop) : Prop := match x with
  | .func g => callK P g args w k
  | x => fnK P (ev f x) args w k
def bltS (P : Program) (b : Builtin) (ats : Array TypeId) (ty : TypeId) (as : Array Operand) (args : Array Value) (f : Fr) (w : World) (k : Value → World → Prop) : Prop := match b with
  | .len => lenW P (lenA P ats args) ats ty args w k
  | .append => appK P ats ty args w k
  | .copy => runK P (Builtin.copy_ ats ty args) w k
  | .delete => runK P (Builtin.delete_ ats ty args) w k
  | .cap => runK P (Builtin.cap_ ats ty args) w k
  | .min => runK P (Builtin.min_ ats ty args) w k
  | .max => runK P (Builtin.max_ ats ty args) w k
  | b => resK ((execOp (ev f) ⟨none, .call ⟨.builtin b, as, ats⟩, ty, "", #[], none⟩).run P w) k
def callS (P : Program) (c : Call) (ty : TypeId) (f : Fr) (w : World) (k : Value → World → Prop) : Prop := match c.callee with
  | .value x => valS P x (c.args.map (ev f)) f w k
  | .builtin b => bltS P b c.argTypes ty c.args (c.args.map (ev f)) f w k
  | .invoke _ _ => resK ((execOp (ev f) ⟨none, .call c, ty, "", #[], none⟩).run P w) k
/-- What an operation comes to. -/
def stepK (P : Program) (op : Op) (ty : TypeId) (f : Fr) (w : World) (k : Value → World → Prop) : Prop := match op with
  | .move x => k (ev f x) w
  | .assign x => k (ev f x) w
  | .pick c a b => pickW (ev f c) (ev f a) (ev f b) k w
  | .nilCheck x => optW (nilV (ev f x)) k w
  | .binOp op t x y _ => binK P op t x y (ev f x) (ev f y) w k
  | .unOp op _ x => optW (unV op (ev f x)) k w
  | .convert s t x => cvK P s t (ev f x) w k
  | .extract x i => optW (extV i (ev f x)) k w
  | .fieldAddr s x i => optW (fldV P s i (ev f x)) k w
  | .indexAddr t x i => optW (ixaV P t (ev f x) (ev f i)) k w
  | .slice t x lo hi mx => slcK P t (ev f x) (lo.map (ev f)) (hi.map (ev f)) (mx.map (ev f)) w k
  | .load t x => optW (ldV P w t (ev f x)) k w
  | .store t x y => stW (stV P w t (ev f x) (ev f y)) k
  | .box t x => boxK t (ev f x) w k
  | .makeFunc fn first cap => k (.func fn (first.map (ev f)) (cap.map (ev f))) w
  | .buildSlice t n ps => bslK P t n (ps.map fun p => (p.1, ev f p.2)) w k
  | .build t ps => bldK P t (ps.map fun p => (p.1, ev f p.2)) w k
  | .alloc t => runK P (Instr.alloc t true (.tuple #[])) w k
  | .field t x i => runK P (Instr.field t (ev f x) i) w k
  | .index t x i => runK P (Instr.index t (ev f x) (ev f i)) w k
  | .makeSlice t x y => runK P (Instr.makeSlice t (ev f x) (ev f y)) w k
  | .makeMap t r => runK P (Instr.makeMap t (r.map (ev f))) w k
  | .lookup t x i ok => runK P (Instr.lookup t (ev f x) (ev f i) ok) w k
  | .mapUpdate t m i x => runU P (Instr.mapUpdate t (ev f m) (ev f i) (ev f x)) w k
  | .range t x => runK P (Instr.range t (ev f x)) w k
  | .next x b => runK P (Instr.next (ev f x) b ty) w k
  | .entry x => runK P (Instr.entry (ev f x)) w k
  | .call c => callS P c ty f w k
  | op => resK ((execOp (ev f) ⟨none, op, ty, "", #[], none⟩).run P w) k

def cvV (P : Program) (s t : TypeId) (x : Value) : Option Value := match P.underlying s, P.underlying t, x with
  | some _, some (.int kk), .int _ n => some (.int kk (kk.wrap n))
  | some _, some .string, .string b => some (.string b)
  | _, _, _ => none
def bndV (d : Nat) : Option Value → Option Nat
  | none => some d
  | some (.int _ i) => if 0 ≤ i then some i.toNat else none
  | _ => none
def slcV (P : Program) (t : TypeId) (x : Value) (lo hi mx : Option Value) : Option Value := match P.underlying t, x, mx with
  | some (.slice e), .slice A n c, none => match sizeOf1 P e, bndV 0 lo, bndV n hi with
    | some s, some l, some h => if l ≤ h ∧ h ≤ c then some (sliced A l h c s) else none
    | _, _, _ => none
  | _, _, _ => none
def placesOf (P : Program) (fs : List Field) : Option (List (Nat × Nat)) := fs.mapM fun f => (sizeOf1 P f.type).map fun s => (f.offset, s)
/-- What a struct is made as. -/
def bldV (P : Program) (t : TypeId) (ps : Array (Nat × Value)) : Option Value := match P.underlying t, (P.info? t).bind (·.zero) with
  | some (.struct fs), some z => match placesOf P fs.toList with
    | some l => (Instr.fill (l[·]?) z.cells ps.toList).map .agg
    | none => none
  | _, _ => none
/-- What an operation comes to in every world. -/
def pvOf (P : Program) (op : Op) (f : Fr) : Option Value := match op with
  | .move x => some (ev f x)
  | .assign x => some (ev f x)
  | .pick c a b => match ev f c with
    | .bool d => some (if d = true then ev f a else ev f b)
    | _ => none
  | .nilCheck x => nilV (ev f x)
  | .binOp op t x y _ => binV P op t (ev f x) (ev f y)
  | .unOp op _ x => unV op (ev f x)
  | .convert s t x => cvV P s t (ev f x)
  | .extract x i => extV i (ev f x)
  | .fieldAddr s x i => fldV P s i (ev f x)
  | .indexAddr t x i => ixaV P t (ev f x) (ev f i)
  | .slice t x lo hi mx => slcV P t (ev f x) (lo.map (ev f)) (hi.map (ev f)) (mx.map (ev f))
  | .makeFunc fn first cap => some (.func fn (first.map (ev f)) (cap.map (ev f)))
  | .build t ps => bldV P t (ps.map fun p => (p.1, ev f p.2))
  | .call c => match c.callee with
    | .builtin .len => lenA P c.argTypes (c.args.map (ev f))
    | _ => none
  | _ => none

/-- Is it wanted? -/
def gdB (f : Fr) (g : Option (Nat × Bool)) : Bool := match g with
  | none => true
  | some (d, b) => match f d with
    | .bool c => c == b
    | _ => false

def RL (P : Program) (K : Fr → World → Prop) : List MI → Fr → World → Prop
  | [], f, w => K f w
  | m :: r, f, w => if gdB f m.gd = true then stepK P m.op m.ty f w fun v w' => RL P K r (updo f m.dst v) w' else RL P K r (updo f m.dst undef) w
/-- A region that draws its order, in the order that was chosen: what is held (S) is shown behind each event but the last ones. -/
def RD (P : Program) (S : World → Prop) (K : Fr → World → Prop) : List (Nat × MI) → Fr → World → Prop
  | [], f, w => K f w
  | (q, m) :: r, f, w => match q with
    | 0 => if gdB f m.gd = true then (optW (pvOf P m.op f) (fun v w' => RD P S K r (updo f m.dst v) w') w) else (RD P S K r (updo f m.dst undef) w)
    | 1 => if gdB f m.gd = true then (S w ∧ ∃ v, (∀ w', S w' → stepK P m.op m.ty f w' fun u w'' => u = v ∧ w'' = w') ∧ RD P S K r (updo f m.dst v) w) else (S w ∧ RD P S K r (updo f m.dst undef) w)
    | 2 => if gdB f m.gd = true then (stepK P m.op m.ty f w fun v w' => S w' ∧ (S w' → RD P S K r (updo f m.dst v) w')) else (S w ∧ RD P S K r (updo f m.dst undef) w)
    | _ => if gdB f m.gd = true then (stepK P m.op m.ty f w fun v w' => RD P S K r (updo f m.dst v) w') else (RD P S K r (updo f m.dst undef) w)
/-- Nothing is held. -/
def TS : World → Prop := fun _ => True
/-- Part by part. -/
def RG (P : Program) (Q : Fr → World → Prop) : List (Bool × List (Nat × MI)) → Fr → World → Prop
  | [], f, w => Q f w
  | (true, l) :: r, f, w => ∃ S : World → Prop, S w ∧ RD P S (RG P Q r) l f w
  | (false, l) :: r, f, w => RD P TS (RG P Q r) l f w

/-- What is held is shown, and then it goes on. -/
def shS (S : World → Prop) (A : Fr → World → Prop) (f : Fr) (w : World) : Prop := S w ∧ (S w → A f w)
/-- Either of two events comes up. -/
def frkK (P : Program) (A B : Fr → World → Prop) (m1 m2 : MI) (f : Fr) (w : World) : Prop := RL P A [m1] f w ∧ RL P B [m2] f w
def DTK (P : Program) (S : World → Prop) (K : Fr → World → Prop) : DT → Fr → World → Prop
  | .fin => K
  | .fork m1 l1 t1 m2 l2 t2 => frkK P (shS S (RD P S (DTK P S K t1) l1)) (shS S (RD P S (DTK P S K t2) l2)) m1 m2
def frS (P : Program) (K : Fr → World → Prop) (l : List (Nat × MI)) (t : DT) (f : Fr) (w : World) : Prop := ∃ S : World → Prop, S w ∧ RD P S (DTK P S K t) l f w
def thenQ (K : Fr → World → Prop) (Q : Exit → Fr → World → Prop) : Exit → Fr → World → Prop
  | .normal, f, w => K f w
  | e, f, w => Q e f w
def blkQ (id : Nat) (Q : Exit → Fr → World → Prop) : Exit → Fr → World → Prop
  | .exit i, f, w => if i = id then Q .normal f w else Q (.exit i) f w
  | e, f, w => Q e f w
def WM (P : Program) : MC → (Exit → Fr → World → Prop) → Fr → World → Prop
  | .skip, Q, f, w => Q .normal f w
  | .ret, Q, f, w => Q .ret f w
  | .exit i, Q, f, w => Q (.exit i) f w
  | .reg l, Q, f, w => RL P (Q .normal) l f w
  | .drw l, Q, f, w => RG P (Q .normal) l f w.drew
  | .frk l t, Q, f, w => frS P (Q .normal) l t f w.drew
  | .seq x y, Q, f, w => WM P x (thenQ (WM P y Q) Q) f w
  | .cond c x y, Q, f, w => match ev f c with
    | .bool true => WM P x Q f w
    | .bool false => WM P y Q f w
    | _ => False
  | .blk id c, Q, f, w => WM P c (blkQ id Q) f w
  | .loop c, Q, f, w => ∃ (I : Nat → Fr → World → Prop) (n : Nat), I n f w ∧ ∀ n f w, I n f w → WM P c (thenQ (fun f' w' => ∃ n', n' < n ∧ I n' f' w') Q) f w

/-! ### the end of a call -/
def resL (P : Program) : List ResultVar → Fr → World → Option (List Value)
  | [], _, _ => some []
  | .tmp t :: r, f, w => (resL P r f w).map (f t :: ·)
  | .cell a t :: r, f, w => match ldV P w t (f a), resL P r f w with
    | some v, some l => some (v :: l)
    | _, _ => none
def resV (l : List Value) : Value := match l with
  | [v] => v
  | l => .tuple l.toArray
def retS (o : Option (List Value)) (R : Ending → World → Prop) (w : World) : Prop := match o with
  | some l => R (.returned (resV l)) w
  | none => False
theorem retS_some (l : List Value) (R : Ending → World → Prop) (w : World) : retS (some l) R w = R (.returned (resV l)) w := rfl
def retQ (P : Program) (rs : Array ResultVar) (R : Ending → World → Prop) : Exit → Fr → World → Prop
  | .normal, f, w => retS (resL P rs.toList f w) R w
  | .ret, f, w => retS (resL P rs.toList f w) R w
  | _, _, _ => False
def argF (args : Array Value) : Fr := fun t => args.getD t undef
end Go.Proofs.Ytnoeeiaffnbhcaa.M
