/- The code of 10 functions, as the machine of slots and values reads it, and the facts on types that it asks for. Conditions: none. Written by a program of this work. -/
import Derived.Test.YtnlibeaainbipaaGreatMfnp
import Derived.Test.YtnlibeaainbipaaGreatProg
namespace Go.Proofs.YtnlibeaainbipaaGreat.F
open Go.Proofs.YtnlibeaainbipaaGreat.M
set_option linter.unusedSimpArgs false
set_option linter.unusedVariables false

@[go_sem] theorem cvv22_5 (kk : IntKind) (n : Int) : cvV Tryz.prog 22 5 (.int kk n) = some (.int .u8 (IntKind.u8.wrap n)) := cvV_int .u8 kk n (by rw [Tryz.underlying22]; rfl) Tryz.underlying5
@[go_sem] theorem cv22_5 (kk : IntKind) (n : Int) (w : World) (k : Value → World → Prop) : cvK Tryz.prog 22 5 (.int kk n) w k = k (.int .u8 (IntKind.u8.wrap n)) w := cv_int .u8 kk n (by rw [Tryz.underlying22]; rfl) Tryz.underlying5
@[go_sem] theorem cvv3_22 (kk : IntKind) (n : Int) : cvV Tryz.prog 3 22 (.int kk n) = some (.int .u32 (IntKind.u32.wrap n)) := cvV_int .u32 kk n (by rw [Tryz.underlying3]; rfl) Tryz.underlying22
@[go_sem] theorem cv3_22 (kk : IntKind) (n : Int) (w : World) (k : Value → World → Prop) : cvK Tryz.prog 3 22 (.int kk n) w k = k (.int .u32 (IntKind.u32.wrap n)) w := cv_int .u32 kk n (by rw [Tryz.underlying3]; rfl) Tryz.underlying22
@[go_sem] theorem cvv5_22 (kk : IntKind) (n : Int) : cvV Tryz.prog 5 22 (.int kk n) = some (.int .u32 (IntKind.u32.wrap n)) := cvV_int .u32 kk n (by rw [Tryz.underlying5]; rfl) Tryz.underlying22
@[go_sem] theorem cv5_22 (kk : IntKind) (n : Int) (w : World) (k : Value → World → Prop) : cvK Tryz.prog 5 22 (.int kk n) w k = k (.int .u32 (IntKind.u32.wrap n)) w := cv_int .u32 kk n (by rw [Tryz.underlying5]; rfl) Tryz.underlying22
@[go_sem] theorem fld112_1 (a : Addr) : fldV Tryz.prog 112 1 (.pointer (some a)) = some (.pointer (some (a.add 0))) := fldV_ptr a (by kernel_rfl)
@[go_sem] theorem fld118_1 (a : Addr) : fldV Tryz.prog 118 1 (.pointer (some a)) = some (.pointer (some (a.add 0))) := fldV_ptr a (by kernel_rfl)
@[go_sem] theorem fld121_0 (a : Addr) : fldV Tryz.prog 121 0 (.pointer (some a)) = some (.pointer (some (a.add 0))) := fldV_ptr a (by kernel_rfl)
@[go_sem] theorem fld121_1 (a : Addr) : fldV Tryz.prog 121 1 (.pointer (some a)) = some (.pointer (some (a.add 3))) := fldV_ptr a (by kernel_rfl)
@[go_sem] theorem fld121_2 (a : Addr) : fldV Tryz.prog 121 2 (.pointer (some a)) = some (.pointer (some (a.add 4))) := fldV_ptr a (by kernel_rfl)
theorem hb76 : hasBody Tryz.prog 76 = true := by kernel_rfl
@[go_sem] theorem fk76 (first cap args : Array Value) (w : World) (k : Value → World → Prop) : fnK Tryz.prog (.func (.func 76) first cap) args w k = callK Tryz.prog 76 (first ++ args ++ cap) w k := fnK_eq hb76 first cap args w k
@[go_sem] theorem ixa119 (a : Addr) (kk : IntKind) (i : Int) (h0 : 0 ≤ i) (h1 : i < 256) : ixaV Tryz.prog 119 (.pointer (some a)) (.int kk i) = some (.pointer (some (a.add (i.toNat * 1)))) := ixaV_array a kk i Tryz.underlying119 sz22 h0 h1

/-- lodestar/crc.New -/
def m24 : MC := .seq (.reg [⟨(some 0), none, .assign (.const (.pointer none)), 66⟩]) (.seq (.reg [⟨(some 1), none, .build 121 #[], 121⟩, ⟨(some 2), none, .box 121 (.tmp 1), 66⟩, ⟨(some 0), none, .assign (.tmp 2), 66⟩]) .ret)
theorem c24 : fnOf Tryz.prog Tryz.f24 [] = some m24 := by kernel_rfl
theorem r24 : Tryz.f24.results = #[.tmp 0] := by kernel_rfl

/-- (*lodestar/crc.Summer).Of -/
def m25 : MC := .seq (.reg [⟨(some 4), none, .assign (.const (.int .u32 0)), 22⟩]) (.seq (.reg [⟨(some 5), none, .move (.tmp 0), 66⟩, ⟨(some 6), none, .move (.tmp 1), 33⟩, ⟨(some 7), none, .call { callee := (.value (.func 52)), args := #[(.tmp 5), (.const (.int .u32 0)), (.tmp 6)], argTypes := #[66, 22, 33] }, 22⟩, ⟨(some 4), none, .assign (.tmp 7), 22⟩]) .ret)
theorem c25 : fnOf Tryz.prog Tryz.f25 [] = some m25 := by kernel_rfl
theorem r25 : Tryz.f25.results = #[.tmp 4] := by kernel_rfl

/-- (*lodestar/crc.Summer).More -/
def m52 : MC := .seq (.reg [⟨(some 6), none, .assign (.const (.int .u32 0)), 22⟩]) (.seq (.reg [⟨(some 9), none, .move (.tmp 0), 66⟩, ⟨(some 10), none, .nilCheck (.tmp 9), 0⟩, ⟨(some 11), none, .fieldAddr 121 (.tmp 10) 0, 0⟩, ⟨(some 12), none, .move (.tmp 0), 66⟩, ⟨(some 13), none, .makeFunc (.func 76) #[(.tmp 12)] #[], 1⟩, ⟨(some 14), none, .call { callee := (.value (.func 75)), args := #[(.tmp 11), (.tmp 13)], argTypes := #[118, 1] }, 0⟩]) (.seq (.reg [⟨(some 15), none, .move (.tmp 1), 22⟩, ⟨(some 16), none, .unOp .xor 22 (.tmp 15), 22⟩, ⟨(some 1), none, .assign (.tmp 16), 22⟩]) (.seq (.seq (.reg [⟨(some 17), none, .move (.tmp 2), 33⟩, ⟨(some 18), none, .call { callee := (.builtin .len), args := #[(.tmp 17)], argTypes := #[33] }, 3⟩, ⟨(some 19), none, .move (.const (.int .i64 0)), 3⟩]) (.blk 0 (.loop (.seq (.reg [⟨(some 20), none, .binOp .lss 3 (.tmp 19) (.tmp 18) 3, 0⟩]) (.seq (.cond (.tmp 20) .skip (.exit 0)) (.seq (.blk 1 (.seq (.reg [⟨(some 21), none, .indexAddr 33 (.tmp 17) (.tmp 19), 0⟩, ⟨(some 22), none, .load 5 (.tmp 21), 5⟩, ⟨(some 8), none, .assign (.tmp 22), 5⟩]) (.reg [⟨(some 23), none, .move (.tmp 0), 66⟩, ⟨(some 24), none, .move (.tmp 1), 22⟩, ⟨(some 25), none, .convert 22 5 (.tmp 24), 5⟩, ⟨(some 26), none, .move (.tmp 8), 5⟩, ⟨(some 27), none, .binOp .xor 5 (.tmp 25) (.tmp 26) 5, 5⟩, ⟨(some 28), none, .nilCheck (.tmp 23), 0⟩, ⟨(some 29), none, .fieldAddr 121 (.tmp 28) 2, 0⟩, ⟨(some 30), none, .indexAddr 119 (.tmp 29) (.tmp 27), 0⟩, ⟨(some 31), none, .load 22 (.tmp 30), 22⟩, ⟨(some 32), none, .move (.tmp 1), 22⟩, ⟨(some 33), none, .binOp .shr 22 (.tmp 32) (.const (.int .u64 8)) 69, 22⟩, ⟨(some 34), none, .binOp .xor 22 (.tmp 31) (.tmp 33) 22, 22⟩, ⟨(some 1), none, .assign (.tmp 34), 22⟩]))) (.reg [⟨(some 35), none, .binOp .add 3 (.tmp 19) (.const (.int .i64 1)) 3, 3⟩, ⟨(some 19), none, .move (.tmp 35), 3⟩]))))))) (.seq (.reg [⟨(some 36), none, .move (.tmp 1), 22⟩, ⟨(some 37), none, .unOp .xor 22 (.tmp 36), 22⟩, ⟨(some 6), none, .assign (.tmp 37), 22⟩]) .ret))))
theorem c52 : fnOf Tryz.prog Tryz.f52 [] = some m52 := by kernel_rfl
theorem r52 : Tryz.f52.results = #[.tmp 6] := by kernel_rfl

/-- lodestar/lodestarref05.Of -/
def m53 : MC := .seq (.reg [⟨(some 2), none, .assign (.const (.int .u32 0)), 22⟩]) (.seq (.reg [⟨(some 3), none, .move (.tmp 0), 33⟩, ⟨(some 4), none, .call { callee := (.value (.func 77)), args := #[(.const (.int .u32 0)), (.tmp 3)], argTypes := #[22, 33] }, 22⟩, ⟨(some 2), none, .assign (.tmp 4), 22⟩]) .ret)
theorem c53 : fnOf Tryz.prog Tryz.f53 [] = some m53 := by kernel_rfl
theorem r53 : Tryz.f53.results = #[.tmp 2] := by kernel_rfl

/-- (*sync.Once).Do -/
def m75 : MC := .seq (.reg [⟨(some 4), none, .move (.tmp 0), 172⟩, ⟨(some 5), none, .nilCheck (.tmp 4), 0⟩, ⟨(some 6), none, .fieldAddr 118 (.tmp 5) 1, 0⟩, ⟨(some 7), none, .call { callee := (.value (.func 104)), args := #[(.tmp 6)], argTypes := #[112] }, 4⟩, ⟨(some 8), none, .unOp .not 4 (.tmp 7), 4⟩]) (.cond (.tmp 8) (.reg [⟨(some 9), none, .move (.tmp 0), 172⟩, ⟨(some 10), none, .move (.tmp 1), 1⟩, ⟨(some 11), none, .call { callee := (.value (.func 105)), args := #[(.tmp 9), (.tmp 10)], argTypes := #[172, 1] }, 0⟩]) .skip)
theorem c75 : fnOf Tryz.prog Tryz.f75 [] = some m75 := by kernel_rfl
theorem r75 : Tryz.f75.results = #[] := by kernel_rfl

/-- (*lodestar/crc.Summer).make -/
def m76 : MC := .seq (.seq (.reg [⟨(some 4), none, .move (.const (.int .i64 0)), 3⟩]) (.blk 0 (.loop (.seq (.reg [⟨(some 5), none, .binOp .lss 3 (.tmp 4) (.const (.int .i64 256)) 3, 0⟩]) (.seq (.cond (.tmp 5) .skip (.exit 0)) (.seq (.blk 1 (.seq (.reg [⟨(some 6), none, .move (.tmp 4), 3⟩, ⟨(some 2), none, .assign (.tmp 6), 3⟩]) (.seq (.reg [⟨(some 7), none, .move (.tmp 2), 3⟩, ⟨(some 8), none, .convert 3 22 (.tmp 7), 22⟩, ⟨(some 3), none, .assign (.tmp 8), 22⟩]) (.seq (.seq (.reg [⟨(some 9), none, .move (.const (.int .i64 0)), 3⟩]) (.blk 2 (.loop (.seq (.reg [⟨(some 10), none, .binOp .lss 3 (.tmp 9) (.const (.int .i64 8)) 3, 4⟩]) (.seq (.cond (.tmp 10) .skip (.exit 2)) (.seq (.blk 3 (.seq (.reg [⟨(some 11), none, .move (.tmp 3), 22⟩, ⟨(some 12), none, .binOp .and 22 (.tmp 11) (.const (.int .u32 1)) 22, 22⟩, ⟨(some 13), none, .binOp .eql 22 (.tmp 12) (.const (.int .u32 1)) 22, 4⟩]) (.cond (.tmp 13) (.reg [⟨(some 14), none, .move (.tmp 3), 22⟩, ⟨(some 15), none, .binOp .shr 22 (.tmp 14) (.const (.int .u64 1)) 69, 22⟩, ⟨(some 16), none, .binOp .xor 22 (.tmp 15) (.const (.int .u32 3988292384)) 22, 22⟩, ⟨(some 3), none, .assign (.tmp 16), 22⟩]) (.reg [⟨(some 17), none, .move (.tmp 3), 22⟩, ⟨(some 18), none, .binOp .shr 22 (.tmp 17) (.const (.int .u64 1)) 69, 22⟩, ⟨(some 3), none, .assign (.tmp 18), 22⟩])))) (.reg [⟨(some 19), none, .binOp .add 3 (.tmp 9) (.const (.int .i64 1)) 3, 3⟩, ⟨(some 9), none, .move (.tmp 19), 3⟩]))))))) (.reg [⟨(some 20), none, .move (.tmp 0), 66⟩, ⟨(some 21), none, .move (.tmp 2), 3⟩, ⟨(some 22), none, .move (.tmp 3), 22⟩, ⟨(some 23), none, .nilCheck (.tmp 20), 0⟩, ⟨(some 24), none, .fieldAddr 121 (.tmp 23) 2, 0⟩, ⟨(some 25), none, .indexAddr 119 (.tmp 24) (.tmp 21), 0⟩, ⟨none, none, .store 22 (.tmp 25) (.tmp 22), 0⟩]))))) (.reg [⟨(some 26), none, .binOp .add 3 (.tmp 4) (.const (.int .i64 1)) 3, 3⟩, ⟨(some 4), none, .move (.tmp 26), 3⟩]))))))) (.reg [⟨(some 27), none, .move (.tmp 0), 66⟩, ⟨(some 28), none, .nilCheck (.tmp 27), 0⟩, ⟨(some 29), none, .fieldAddr 121 (.tmp 28) 1, 0⟩, ⟨(some 30), none, .call { callee := (.value (.func 106)), args := #[(.tmp 29), (.const (.bool true))], argTypes := #[112, 4] }, 0⟩])
theorem c76 : fnOf Tryz.prog Tryz.f76 [] = some m76 := by kernel_rfl
theorem r76 : Tryz.f76.results = #[] := by kernel_rfl

/-- lodestar/lodestarref05.More -/
def m77 : MC := .seq (.reg [⟨(some 4), none, .assign (.const (.int .u32 0)), 22⟩]) (.seq (.reg [⟨(some 8), none, .move (.tmp 0), 22⟩, ⟨(some 9), none, .binOp .xor 22 (.tmp 8) (.const (.int .u32 4294967295)) 22, 22⟩, ⟨(some 0), none, .assign (.tmp 9), 22⟩]) (.seq (.seq (.reg [⟨(some 5), none, .assign (.const (.int .i64 0)), 3⟩]) (.blk 0 (.loop (.seq (.seq (.reg [⟨(some 10), none, .move (.tmp 5), 3⟩, ⟨(some 11), none, .move (.tmp 1), 33⟩, ⟨(some 12), none, .call { callee := (.builtin .len), args := #[(.tmp 11)], argTypes := #[33] }, 3⟩, ⟨(some 13), none, .binOp .lss 3 (.tmp 10) (.tmp 12) 3, 4⟩]) (.cond (.tmp 13) .skip (.exit 0))) (.seq (.blk 1 (.seq (.reg [⟨(some 16), none, .move (.tmp 0), 22⟩, ⟨(some 17), none, .move (.tmp 1), 33⟩, ⟨(some 18), none, .move (.tmp 5), 3⟩, ⟨(some 19), none, .indexAddr 33 (.tmp 17) (.tmp 18), 0⟩, ⟨(some 20), none, .load 5 (.tmp 19), 5⟩, ⟨(some 21), none, .convert 5 22 (.tmp 20), 22⟩, ⟨(some 22), none, .binOp .xor 22 (.tmp 16) (.tmp 21) 22, 22⟩, ⟨(some 0), none, .assign (.tmp 22), 22⟩]) (.seq (.reg [⟨(some 6), none, .assign (.const (.int .i64 0)), 3⟩]) (.blk 2 (.loop (.seq (.seq (.reg [⟨(some 23), none, .move (.tmp 6), 3⟩, ⟨(some 24), none, .binOp .lss 3 (.tmp 23) (.const (.int .i64 8)) 3, 4⟩]) (.cond (.tmp 24) .skip (.exit 2))) (.seq (.blk 3 (.seq (.reg [⟨(some 27), none, .move (.tmp 0), 22⟩, ⟨(some 28), none, .binOp .and 22 (.tmp 27) (.const (.int .u32 1)) 22, 22⟩, ⟨(some 7), none, .assign (.tmp 28), 22⟩]) (.seq (.reg [⟨(some 29), none, .move (.tmp 0), 22⟩, ⟨(some 30), none, .binOp .shr 22 (.tmp 29) (.const (.int .u64 1)) 69, 22⟩, ⟨(some 0), none, .assign (.tmp 30), 22⟩]) (.seq (.reg [⟨(some 31), none, .move (.tmp 7), 22⟩, ⟨(some 32), none, .binOp .eql 22 (.tmp 31) (.const (.int .u32 1)) 22, 4⟩]) (.cond (.tmp 32) (.reg [⟨(some 33), none, .move (.tmp 0), 22⟩, ⟨(some 34), none, .binOp .xor 22 (.tmp 33) (.const (.int .u32 3988292384)) 22, 22⟩, ⟨(some 0), none, .assign (.tmp 34), 22⟩]) .skip))))) (.reg [⟨(some 25), none, .move (.tmp 6), 3⟩, ⟨(some 26), none, .binOp .add 3 (.tmp 25) (.const (.int .i64 1)) 3, 3⟩, ⟨(some 6), none, .assign (.tmp 26), 3⟩])))))))) (.reg [⟨(some 14), none, .move (.tmp 5), 3⟩, ⟨(some 15), none, .binOp .add 3 (.tmp 14) (.const (.int .i64 1)) 3, 3⟩, ⟨(some 5), none, .assign (.tmp 15), 3⟩])))))) (.seq (.reg [⟨(some 35), none, .move (.tmp 0), 22⟩, ⟨(some 36), none, .binOp .xor 22 (.tmp 35) (.const (.int .u32 4294967295)) 22, 22⟩, ⟨(some 4), none, .assign (.tmp 36), 22⟩]) .ret)))
theorem c77 : fnOf Tryz.prog Tryz.f77 [] = some m77 := by kernel_rfl
theorem r77 : Tryz.f77.results = #[.tmp 4] := by kernel_rfl

/-- (*sync/atomic.Bool).Load -/
def m104 : MC := .seq (.reg [⟨(some 2), none, .assign (.const (.bool false)), 4⟩]) (.seq (.reg [⟨(some 3), none, .move (.tmp 0), 177⟩, ⟨(some 4), none, .nilCheck (.tmp 3), 0⟩, ⟨(some 5), none, .fieldAddr 112 (.tmp 4) 1, 0⟩, ⟨(some 6), none, .call { callee := (.value (.func 115)), args := #[(.tmp 5)], argTypes := #[179] }, 22⟩, ⟨(some 7), none, .binOp .neq 22 (.tmp 6) (.const (.int .u32 0)) 22, 4⟩, ⟨(some 2), none, .assign (.tmp 7), 4⟩]) .ret)
theorem c104 : fnOf Tryz.prog Tryz.f104 [] = some m104 := by kernel_rfl
theorem r104 : Tryz.f104.results = #[.tmp 2] := by kernel_rfl

/-- (*sync/atomic.Bool).Store -/
def m106 : MC := .drw [(false, [(0, ⟨(some 4), none, .move (.tmp 0), 177⟩), (0, ⟨(some 5), none, .nilCheck (.tmp 4), 0⟩), (0, ⟨(some 6), none, .fieldAddr 112 (.tmp 5) 1, 0⟩), (0, ⟨(some 7), none, .move (.tmp 1), 4⟩), (2, ⟨(some 8), none, .call { callee := (.value (.func 119)), args := #[(.tmp 7)], argTypes := #[4] }, 22⟩), (2, ⟨(some 9), none, .call { callee := (.value (.func 118)), args := #[(.tmp 6), (.tmp 8)], argTypes := #[179, 22] }, 0⟩)])]
theorem c106 : fnOf Tryz.prog Tryz.f106 [(0, .seg [(false, [], [(0, 0), (0, 1), (0, 2), (0, 3), (2, 4), (2, 5)])])] = some m106 := by kernel_rfl
theorem r106 : Tryz.f106.results = #[] := by kernel_rfl

/-- sync/atomic.b32 -/
def m119 : MC := .seq (.reg [⟨(some 2), none, .assign (.const (.int .u32 0)), 22⟩]) (.seq (.seq (.reg [⟨(some 3), none, .move (.tmp 0), 4⟩]) (.cond (.tmp 3) (.seq (.reg [⟨(some 2), none, .assign (.const (.int .u32 1)), 22⟩]) .ret) .skip)) (.seq (.reg [⟨(some 2), none, .assign (.const (.int .u32 0)), 22⟩]) .ret))
theorem c119 : fnOf Tryz.prog Tryz.f119 [] = some m119 := by kernel_rfl
theorem r119 : Tryz.f119.results = #[.tmp 2] := by kernel_rfl
end Go.Proofs.YtnlibeaainbipaaGreat.F
