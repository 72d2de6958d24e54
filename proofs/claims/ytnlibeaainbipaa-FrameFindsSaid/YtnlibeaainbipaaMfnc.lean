/- The code of 8 functions, as the machine of slots and values reads it, and the facts on types that it asks for. Conditions: none. Written by a program of this work. -/
import Derived.Test.YtnlibeaainbipaaMfns
import Derived.Test.YtnlibeaainbipaaProg
namespace Go.Proofs.Ytnlibeaainbipaa.F
open Go.Proofs.Ytnlibeaainbipaa.M
set_option linter.unusedSimpArgs false
set_option linter.unusedVariables false

@[go_sem] theorem cvv28_5 (kk : IntKind) (n : Int) : cvV Try.prog 28 5 (.int kk n) = some (.int .u8 (IntKind.u8.wrap n)) := cvV_int .u8 kk n (by rw [Try.underlying28]; rfl) Try.underlying5
@[go_sem] theorem cv28_5 (kk : IntKind) (n : Int) (w : World) (k : Value → World → Prop) : cvK Try.prog 28 5 (.int kk n) w k = k (.int .u8 (IntKind.u8.wrap n)) w := cv_int .u8 kk n (by rw [Try.underlying28]; rfl) Try.underlying5
@[go_sem] theorem cvv3_28 (kk : IntKind) (n : Int) : cvV Try.prog 3 28 (.int kk n) = some (.int .u32 (IntKind.u32.wrap n)) := cvV_int .u32 kk n (by rw [Try.underlying3]; rfl) Try.underlying28
@[go_sem] theorem cv3_28 (kk : IntKind) (n : Int) (w : World) (k : Value → World → Prop) : cvK Try.prog 3 28 (.int kk n) w k = k (.int .u32 (IntKind.u32.wrap n)) w := cv_int .u32 kk n (by rw [Try.underlying3]; rfl) Try.underlying28
@[go_sem] theorem fld80_1 (a : Addr) : fldV Try.prog 80 1 (.pointer (some a)) = some (.pointer (some (a.add 0))) := fldV_ptr a (by kernel_rfl)
@[go_sem] theorem fld86_1 (a : Addr) : fldV Try.prog 86 1 (.pointer (some a)) = some (.pointer (some (a.add 0))) := fldV_ptr a (by kernel_rfl)
@[go_sem] theorem fld89_0 (a : Addr) : fldV Try.prog 89 0 (.pointer (some a)) = some (.pointer (some (a.add 0))) := fldV_ptr a (by kernel_rfl)
@[go_sem] theorem fld89_1 (a : Addr) : fldV Try.prog 89 1 (.pointer (some a)) = some (.pointer (some (a.add 3))) := fldV_ptr a (by kernel_rfl)
@[go_sem] theorem fld89_2 (a : Addr) : fldV Try.prog 89 2 (.pointer (some a)) = some (.pointer (some (a.add 4))) := fldV_ptr a (by kernel_rfl)
theorem hb44 : hasBody Try.prog 44 = true := by kernel_rfl
@[go_sem] theorem fk44 (first cap args : Array Value) (w : World) (k : Value → World → Prop) : fnK Try.prog (.func (.func 44) first cap) args w k = callK Try.prog 44 (first ++ args ++ cap) w k := fnK_eq hb44 first cap args w k
@[go_sem] theorem ixa87 (a : Addr) (kk : IntKind) (i : Int) (h0 : 0 ≤ i) (h1 : i < 256) : ixaV Try.prog 87 (.pointer (some a)) (.int kk i) = some (.pointer (some (a.add (i.toNat * 1)))) := ixaV_array a kk i Try.underlying87 sz28 h0 h1

/-- lodestar/crc.New -/
def m12 : MC := .seq (.reg [⟨(some 0), none, .assign (.const (.pointer none)), 52⟩]) (.seq (.reg [⟨(some 1), none, .build 89 #[], 89⟩, ⟨(some 2), none, .box 89 (.tmp 1), 52⟩, ⟨(some 0), none, .assign (.tmp 2), 52⟩]) .ret)
theorem c12 : fnOf Try.prog Try.f12 [] = some m12 := by kernel_rfl
theorem r12 : Try.f12.results = #[.tmp 0] := by kernel_rfl

/-- (*lodestar/crc.Summer).Of -/
def m17 : MC := .seq (.reg [⟨(some 4), none, .assign (.const (.int .u32 0)), 28⟩]) (.seq (.reg [⟨(some 5), none, .move (.tmp 0), 52⟩, ⟨(some 6), none, .move (.tmp 1), 26⟩, ⟨(some 7), none, .call { callee := (.value (.func 31)), args := #[(.tmp 5), (.const (.int .u32 0)), (.tmp 6)], argTypes := #[52, 28, 26] }, 28⟩, ⟨(some 4), none, .assign (.tmp 7), 28⟩]) .ret)
theorem c17 : fnOf Try.prog Try.f17 [] = some m17 := by kernel_rfl
theorem r17 : Try.f17.results = #[.tmp 4] := by kernel_rfl

/-- (*lodestar/crc.Summer).More -/
def m31 : MC := .seq (.reg [⟨(some 6), none, .assign (.const (.int .u32 0)), 28⟩]) (.seq (.reg [⟨(some 9), none, .move (.tmp 0), 52⟩, ⟨(some 10), none, .nilCheck (.tmp 9), 0⟩, ⟨(some 11), none, .fieldAddr 89 (.tmp 10) 0, 0⟩, ⟨(some 12), none, .move (.tmp 0), 52⟩, ⟨(some 13), none, .makeFunc (.func 44) #[(.tmp 12)] #[], 1⟩, ⟨(some 14), none, .call { callee := (.value (.func 43)), args := #[(.tmp 11), (.tmp 13)], argTypes := #[86, 1] }, 0⟩]) (.seq (.reg [⟨(some 15), none, .move (.tmp 1), 28⟩, ⟨(some 16), none, .unOp .xor 28 (.tmp 15), 28⟩, ⟨(some 1), none, .assign (.tmp 16), 28⟩]) (.seq (.seq (.reg [⟨(some 17), none, .move (.tmp 2), 26⟩, ⟨(some 18), none, .call { callee := (.builtin .len), args := #[(.tmp 17)], argTypes := #[26] }, 3⟩, ⟨(some 19), none, .move (.const (.int .i64 0)), 3⟩]) (.blk 0 (.loop (.seq (.reg [⟨(some 20), none, .binOp .lss 3 (.tmp 19) (.tmp 18) 3, 0⟩]) (.seq (.cond (.tmp 20) .skip (.exit 0)) (.seq (.blk 1 (.seq (.reg [⟨(some 21), none, .indexAddr 26 (.tmp 17) (.tmp 19), 0⟩, ⟨(some 22), none, .load 5 (.tmp 21), 5⟩, ⟨(some 8), none, .assign (.tmp 22), 5⟩]) (.reg [⟨(some 23), none, .move (.tmp 0), 52⟩, ⟨(some 24), none, .move (.tmp 1), 28⟩, ⟨(some 25), none, .convert 28 5 (.tmp 24), 5⟩, ⟨(some 26), none, .move (.tmp 8), 5⟩, ⟨(some 27), none, .binOp .xor 5 (.tmp 25) (.tmp 26) 5, 5⟩, ⟨(some 28), none, .nilCheck (.tmp 23), 0⟩, ⟨(some 29), none, .fieldAddr 89 (.tmp 28) 2, 0⟩, ⟨(some 30), none, .indexAddr 87 (.tmp 29) (.tmp 27), 0⟩, ⟨(some 31), none, .load 28 (.tmp 30), 28⟩, ⟨(some 32), none, .move (.tmp 1), 28⟩, ⟨(some 33), none, .binOp .shr 28 (.tmp 32) (.const (.int .u64 8)) 64, 28⟩, ⟨(some 34), none, .binOp .xor 28 (.tmp 31) (.tmp 33) 28, 28⟩, ⟨(some 1), none, .assign (.tmp 34), 28⟩]))) (.reg [⟨(some 35), none, .binOp .add 3 (.tmp 19) (.const (.int .i64 1)) 3, 3⟩, ⟨(some 19), none, .move (.tmp 35), 3⟩]))))))) (.seq (.reg [⟨(some 36), none, .move (.tmp 1), 28⟩, ⟨(some 37), none, .unOp .xor 28 (.tmp 36), 28⟩, ⟨(some 6), none, .assign (.tmp 37), 28⟩]) .ret))))
theorem c31 : fnOf Try.prog Try.f31 [] = some m31 := by kernel_rfl
theorem r31 : Try.f31.results = #[.tmp 6] := by kernel_rfl

/-- (*sync.Once).Do -/
def m43 : MC := .seq (.reg [⟨(some 4), none, .move (.tmp 0), 141⟩, ⟨(some 5), none, .nilCheck (.tmp 4), 0⟩, ⟨(some 6), none, .fieldAddr 86 (.tmp 5) 1, 0⟩, ⟨(some 7), none, .call { callee := (.value (.func 70)), args := #[(.tmp 6)], argTypes := #[80] }, 4⟩, ⟨(some 8), none, .unOp .not 4 (.tmp 7), 4⟩]) (.cond (.tmp 8) (.reg [⟨(some 9), none, .move (.tmp 0), 141⟩, ⟨(some 10), none, .move (.tmp 1), 1⟩, ⟨(some 11), none, .call { callee := (.value (.func 71)), args := #[(.tmp 9), (.tmp 10)], argTypes := #[141, 1] }, 0⟩]) .skip)
theorem c43 : fnOf Try.prog Try.f43 [] = some m43 := by kernel_rfl
theorem r43 : Try.f43.results = #[] := by kernel_rfl

/-- (*lodestar/crc.Summer).make -/
def m44 : MC := .seq (.seq (.reg [⟨(some 4), none, .move (.const (.int .i64 0)), 3⟩]) (.blk 0 (.loop (.seq (.reg [⟨(some 5), none, .binOp .lss 3 (.tmp 4) (.const (.int .i64 256)) 3, 0⟩]) (.seq (.cond (.tmp 5) .skip (.exit 0)) (.seq (.blk 1 (.seq (.reg [⟨(some 6), none, .move (.tmp 4), 3⟩, ⟨(some 2), none, .assign (.tmp 6), 3⟩]) (.seq (.reg [⟨(some 7), none, .move (.tmp 2), 3⟩, ⟨(some 8), none, .convert 3 28 (.tmp 7), 28⟩, ⟨(some 3), none, .assign (.tmp 8), 28⟩]) (.seq (.seq (.reg [⟨(some 9), none, .move (.const (.int .i64 0)), 3⟩]) (.blk 2 (.loop (.seq (.reg [⟨(some 10), none, .binOp .lss 3 (.tmp 9) (.const (.int .i64 8)) 3, 4⟩]) (.seq (.cond (.tmp 10) .skip (.exit 2)) (.seq (.blk 3 (.seq (.reg [⟨(some 11), none, .move (.tmp 3), 28⟩, ⟨(some 12), none, .binOp .and 28 (.tmp 11) (.const (.int .u32 1)) 28, 28⟩, ⟨(some 13), none, .binOp .eql 28 (.tmp 12) (.const (.int .u32 1)) 28, 4⟩]) (.cond (.tmp 13) (.reg [⟨(some 14), none, .move (.tmp 3), 28⟩, ⟨(some 15), none, .binOp .shr 28 (.tmp 14) (.const (.int .u64 1)) 64, 28⟩, ⟨(some 16), none, .binOp .xor 28 (.tmp 15) (.const (.int .u32 3988292384)) 28, 28⟩, ⟨(some 3), none, .assign (.tmp 16), 28⟩]) (.reg [⟨(some 17), none, .move (.tmp 3), 28⟩, ⟨(some 18), none, .binOp .shr 28 (.tmp 17) (.const (.int .u64 1)) 64, 28⟩, ⟨(some 3), none, .assign (.tmp 18), 28⟩])))) (.reg [⟨(some 19), none, .binOp .add 3 (.tmp 9) (.const (.int .i64 1)) 3, 3⟩, ⟨(some 9), none, .move (.tmp 19), 3⟩]))))))) (.reg [⟨(some 20), none, .move (.tmp 0), 52⟩, ⟨(some 21), none, .move (.tmp 2), 3⟩, ⟨(some 22), none, .move (.tmp 3), 28⟩, ⟨(some 23), none, .nilCheck (.tmp 20), 0⟩, ⟨(some 24), none, .fieldAddr 89 (.tmp 23) 2, 0⟩, ⟨(some 25), none, .indexAddr 87 (.tmp 24) (.tmp 21), 0⟩, ⟨none, none, .store 28 (.tmp 25) (.tmp 22), 0⟩]))))) (.reg [⟨(some 26), none, .binOp .add 3 (.tmp 4) (.const (.int .i64 1)) 3, 3⟩, ⟨(some 4), none, .move (.tmp 26), 3⟩]))))))) (.reg [⟨(some 27), none, .move (.tmp 0), 52⟩, ⟨(some 28), none, .nilCheck (.tmp 27), 0⟩, ⟨(some 29), none, .fieldAddr 89 (.tmp 28) 1, 0⟩, ⟨(some 30), none, .call { callee := (.value (.func 72)), args := #[(.tmp 29), (.const (.bool true))], argTypes := #[80, 4] }, 0⟩])
theorem c44 : fnOf Try.prog Try.f44 [] = some m44 := by kernel_rfl
theorem r44 : Try.f44.results = #[] := by kernel_rfl

/-- (*sync/atomic.Bool).Load -/
def m70 : MC := .seq (.reg [⟨(some 2), none, .assign (.const (.bool false)), 4⟩]) (.seq (.reg [⟨(some 3), none, .move (.tmp 0), 148⟩, ⟨(some 4), none, .nilCheck (.tmp 3), 0⟩, ⟨(some 5), none, .fieldAddr 80 (.tmp 4) 1, 0⟩, ⟨(some 6), none, .call { callee := (.value (.func 81)), args := #[(.tmp 5)], argTypes := #[150] }, 28⟩, ⟨(some 7), none, .binOp .neq 28 (.tmp 6) (.const (.int .u32 0)) 28, 4⟩, ⟨(some 2), none, .assign (.tmp 7), 4⟩]) .ret)
theorem c70 : fnOf Try.prog Try.f70 [] = some m70 := by kernel_rfl
theorem r70 : Try.f70.results = #[.tmp 2] := by kernel_rfl

/-- (*sync/atomic.Bool).Store -/
def m72 : MC := .drw [(false, [(0, ⟨(some 4), none, .move (.tmp 0), 148⟩), (0, ⟨(some 5), none, .nilCheck (.tmp 4), 0⟩), (0, ⟨(some 6), none, .fieldAddr 80 (.tmp 5) 1, 0⟩), (0, ⟨(some 7), none, .move (.tmp 1), 4⟩), (2, ⟨(some 8), none, .call { callee := (.value (.func 85)), args := #[(.tmp 7)], argTypes := #[4] }, 28⟩), (2, ⟨(some 9), none, .call { callee := (.value (.func 84)), args := #[(.tmp 6), (.tmp 8)], argTypes := #[150, 28] }, 0⟩)])]
theorem c72 : fnOf Try.prog Try.f72 [(0, .seg [(false, [], [(0, 0), (0, 1), (0, 2), (0, 3), (2, 4), (2, 5)])])] = some m72 := by kernel_rfl
theorem r72 : Try.f72.results = #[] := by kernel_rfl

/-- sync/atomic.b32 -/
def m85 : MC := .seq (.reg [⟨(some 2), none, .assign (.const (.int .u32 0)), 28⟩]) (.seq (.seq (.reg [⟨(some 3), none, .move (.tmp 0), 4⟩]) (.cond (.tmp 3) (.seq (.reg [⟨(some 2), none, .assign (.const (.int .u32 1)), 28⟩]) .ret) .skip)) (.seq (.reg [⟨(some 2), none, .assign (.const (.int .u32 0)), 28⟩]) .ret))
theorem c85 : fnOf Try.prog Try.f85 [] = some m85 := by kernel_rfl
theorem r85 : Try.f85.results = #[.tmp 2] := by kernel_rfl
end Go.Proofs.Ytnlibeaainbipaa.F
