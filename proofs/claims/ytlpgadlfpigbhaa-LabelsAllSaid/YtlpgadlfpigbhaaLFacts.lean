/- Closed facts on the types of the program. Printed by facts.py. -/
import Derived.Test.YtlpgadlfpigbhaaAmQ
import Derived.Test.YtlpgadlfpigbhaaProg
set_option linter.unusedSimpArgs false
set_option linter.unusedVariables false
namespace Go.Proofs.Ytlpgadlfpigbhaa
open Go Go.Am
theorem mixed : Try.prog.follows .mixedOrders = true := by kernel_rfl
@[simp] theorem tk2 : tk Try.prog 2 = some (false, 1) := by kernel_rfl
@[simp] theorem ti2 : tint Try.prog 2 = some .i64 := by kernel_rfl
@[simp] theorem to2 : tok Try.prog 2 = true := by kernel_rfl
@[simp] theorem tz2 : tz Try.prog 2 = some [.int .i64 0] := by kernel_rfl
@[simp] theorem tk3 : tk Try.prog 3 = some (false, 1) := by kernel_rfl
@[simp] theorem ti3 : tint Try.prog 3 = some .i64 := by kernel_rfl
@[simp] theorem to3 : tok Try.prog 3 = true := by kernel_rfl
@[simp] theorem tz3 : tz Try.prog 3 = some [.int .i64 0] := by kernel_rfl
@[simp] theorem tk4 : tk Try.prog 4 = some (false, 1) := by kernel_rfl
@[simp] theorem to4 : tok Try.prog 4 = true := by kernel_rfl
@[simp] theorem tz4 : tz Try.prog 4 = some [.bool false] := by kernel_rfl
@[simp] theorem tk5 : tk Try.prog 5 = some (false, 1) := by kernel_rfl
@[simp] theorem ti5 : tint Try.prog 5 = some .u8 := by kernel_rfl
@[simp] theorem to5 : tok Try.prog 5 = true := by kernel_rfl
@[simp] theorem tz5 : tz Try.prog 5 = some [.int .u8 0] := by kernel_rfl
@[simp] theorem tk12 : tk Try.prog 12 = some (false, 1) := by kernel_rfl
@[simp] theorem ti12 : tint Try.prog 12 = some .u64 := by kernel_rfl
@[simp] theorem to12 : tok Try.prog 12 = true := by kernel_rfl
@[simp] theorem tz12 : tz Try.prog 12 = some [.int .u64 0] := by kernel_rfl
@[simp] theorem tk13 : tk Try.prog 13 = some (true, 2) := by kernel_rfl
@[simp] theorem to13 : tok Try.prog 13 = true := by kernel_rfl
@[simp] theorem tf13_0 : tf Try.prog 13 0 = some (0, 1, false) := by kernel_rfl
@[simp] theorem tf13_1 : tf Try.prog 13 1 = some (1, 1, false) := by kernel_rfl
@[simp] theorem tb13 : bplan Try.prog 13 = some ([(0, 1), (1, 1)], [.undef, .int .u64 0]) := by kernel_rfl
@[simp] theorem tz13 : tz Try.prog 13 = some [.undef, .int .u64 0] := by kernel_rfl
@[simp] theorem tk21 : tk Try.prog 21 = some (false, 1) := by kernel_rfl
@[simp] theorem ti21 : tint Try.prog 21 = some .i32 := by kernel_rfl
@[simp] theorem to21 : tok Try.prog 21 = true := by kernel_rfl
@[simp] theorem tz21 : tz Try.prog 21 = some [.int .i32 0] := by kernel_rfl
@[simp] theorem tk22 : tk Try.prog 22 = some (false, 1) := by kernel_rfl
@[simp] theorem to22 : tok Try.prog 22 = true := by kernel_rfl
@[simp] theorem te22 : te Try.prog 22 = some (1, none) := by kernel_rfl
@[simp] theorem ta22 : tap Try.prog 22 = some (1, 1) := by kernel_rfl
@[simp] theorem tcl22 : tcl Try.prog 22 = some 1 := by kernel_rfl
@[simp] theorem tz22 : tz Try.prog 22 = some [.sl 0 [] .full] := by kernel_rfl
@[simp] theorem tk24 : tk Try.prog 24 = some (false, 1) := by kernel_rfl
@[simp] theorem to24 : tok Try.prog 24 = true := by kernel_rfl
@[simp] theorem te24 : te Try.prog 24 = some (2, none) := by kernel_rfl
@[simp] theorem ta24 : tap Try.prog 24 = some (2, 16) := by kernel_rfl
@[simp] theorem tcl24 : tcl Try.prog 24 = some 2 := by kernel_rfl
@[simp] theorem tz24 : tz Try.prog 24 = some [.sl 0 [] .full] := by kernel_rfl
@[simp] theorem tk25 : tk Try.prog 25 = some (false, 1) := by kernel_rfl
@[simp] theorem to25 : tok Try.prog 25 = true := by kernel_rfl
@[simp] theorem te25 : te Try.prog 25 = some (1, none) := by kernel_rfl
@[simp] theorem ta25 : tap Try.prog 25 = some (1, 8) := by kernel_rfl
@[simp] theorem tcl25 : tcl Try.prog 25 = some 1 := by kernel_rfl
@[simp] theorem tz25 : tz Try.prog 25 = some [.sl 0 [] .full] := by kernel_rfl
@[simp] theorem tk26 : tk Try.prog 26 = some (false, 1) := by kernel_rfl
@[simp] theorem ti26 : tint Try.prog 26 = some .i64 := by kernel_rfl
@[simp] theorem to26 : tok Try.prog 26 = true := by kernel_rfl
@[simp] theorem tz26 : tz Try.prog 26 = some [.int .i64 0] := by kernel_rfl
@[simp] theorem tk38 : tk Try.prog 38 = some (false, 1) := by kernel_rfl
@[simp] theorem to38 : tok Try.prog 38 = true := by kernel_rfl
@[simp] theorem te38 : te Try.prog 38 = some (4, none) := by kernel_rfl
@[simp] theorem ta38 : tap Try.prog 38 = some (4, 32) := by kernel_rfl
@[simp] theorem tcl38 : tcl Try.prog 38 = some 4 := by kernel_rfl
@[simp] theorem tz38 : tz Try.prog 38 = some [.sl 0 [] .full] := by kernel_rfl
@[simp] theorem tk39 : tk Try.prog 39 = some (false, 1) := by kernel_rfl
@[simp] theorem ti39 : tint Try.prog 39 = some .u32 := by kernel_rfl
@[simp] theorem to39 : tok Try.prog 39 = true := by kernel_rfl
@[simp] theorem tz39 : tz Try.prog 39 = some [.int .u32 0] := by kernel_rfl
@[simp] theorem tk40 : tk Try.prog 40 = some (false, 1) := by kernel_rfl
@[simp] theorem ti40 : tint Try.prog 40 = some .u32 := by kernel_rfl
@[simp] theorem to40 : tok Try.prog 40 = true := by kernel_rfl
@[simp] theorem tz40 : tz Try.prog 40 = some [.int .u32 0] := by kernel_rfl
@[simp] theorem tk41 : tk Try.prog 41 = some (true, 2) := by kernel_rfl
@[simp] theorem to41 : tok Try.prog 41 = true := by kernel_rfl
@[simp] theorem tf41_0 : tf Try.prog 41 0 = some (0, 1, false) := by kernel_rfl
@[simp] theorem tf41_1 : tf Try.prog 41 1 = some (1, 1, false) := by kernel_rfl
@[simp] theorem tq41 : feq Try.prog 41 = some [true, true] := by kernel_rfl
@[simp] theorem tb41 : bplan Try.prog 41 = some ([(0, 1), (1, 1)], [.int .u32 0, .int .i64 0]) := by kernel_rfl
@[simp] theorem tz41 : tz Try.prog 41 = some [.int .u32 0, .int .i64 0] := by kernel_rfl
@[simp] theorem tk42 : tk Try.prog 42 = some (true, 2) := by kernel_rfl
@[simp] theorem to42 : tok Try.prog 42 = true := by kernel_rfl
@[simp] theorem tf42_0 : tf Try.prog 42 0 = some (0, 1, false) := by kernel_rfl
@[simp] theorem tf42_1 : tf Try.prog 42 1 = some (1, 1, false) := by kernel_rfl
@[simp] theorem tq42 : feq Try.prog 42 = some [true, true] := by kernel_rfl
@[simp] theorem tb42 : bplan Try.prog 42 = some ([(0, 1), (1, 1)], [.int .u32 0, .int .i64 0]) := by kernel_rfl
@[simp] theorem tz42 : tz Try.prog 42 = some [.int .u32 0, .int .i64 0] := by kernel_rfl
@[simp] theorem tk43 : tk Try.prog 43 = some (true, 4) := by kernel_rfl
@[simp] theorem to43 : tok Try.prog 43 = true := by kernel_rfl
@[simp] theorem tf43_0 : tf Try.prog 43 0 = some (0, 2, true) := by kernel_rfl
@[simp] theorem tf43_1 : tf Try.prog 43 1 = some (2, 1, false) := by kernel_rfl
@[simp] theorem tf43_2 : tf Try.prog 43 2 = some (3, 1, false) := by kernel_rfl
@[simp] theorem tq43 : feq Try.prog 43 = some [true, true, true, true] := by kernel_rfl
@[simp] theorem tb43 : bplan Try.prog 43 = some ([(0, 2), (2, 1), (3, 1)], [.int .u32 0, .int .i64 0, .int .u32 0, .int .i64 0]) := by kernel_rfl
@[simp] theorem tz43 : tz Try.prog 43 = some [.int .u32 0, .int .i64 0, .int .u32 0, .int .i64 0] := by kernel_rfl
@[simp] theorem tk44 : tk Try.prog 44 = some (true, 4) := by kernel_rfl
@[simp] theorem to44 : tok Try.prog 44 = true := by kernel_rfl
@[simp] theorem tf44_0 : tf Try.prog 44 0 = some (0, 2, true) := by kernel_rfl
@[simp] theorem tf44_1 : tf Try.prog 44 1 = some (2, 1, false) := by kernel_rfl
@[simp] theorem tf44_2 : tf Try.prog 44 2 = some (3, 1, false) := by kernel_rfl
@[simp] theorem tq44 : feq Try.prog 44 = some [true, true, true, true] := by kernel_rfl
@[simp] theorem tb44 : bplan Try.prog 44 = some ([(0, 2), (2, 1), (3, 1)], [.int .u32 0, .int .i64 0, .int .u32 0, .int .i64 0]) := by kernel_rfl
@[simp] theorem tz44 : tz Try.prog 44 = some [.int .u32 0, .int .i64 0, .int .u32 0, .int .i64 0] := by kernel_rfl
@[simp] theorem tk53 : tk Try.prog 53 = some (true, 2) := by kernel_rfl
@[simp] theorem to53 : tok Try.prog 53 = true := by kernel_rfl
@[simp] theorem tf53_0 : tf Try.prog 53 0 = some (0, 1, false) := by kernel_rfl
@[simp] theorem tf53_1 : tf Try.prog 53 1 = some (1, 1, false) := by kernel_rfl
@[simp] theorem tq53 : feq Try.prog 53 = some [true, true] := by kernel_rfl
@[simp] theorem tb53 : bplan Try.prog 53 = some ([(0, 1), (1, 1)], [.int .i64 0, .int .i64 0]) := by kernel_rfl
@[simp] theorem tz53 : tz Try.prog 53 = some [.int .i64 0, .int .i64 0] := by kernel_rfl
@[simp] theorem tk54 : tk Try.prog 54 = some (true, 2) := by kernel_rfl
@[simp] theorem to54 : tok Try.prog 54 = true := by kernel_rfl
@[simp] theorem tf54_0 : tf Try.prog 54 0 = some (0, 1, false) := by kernel_rfl
@[simp] theorem tf54_1 : tf Try.prog 54 1 = some (1, 1, false) := by kernel_rfl
@[simp] theorem tq54 : feq Try.prog 54 = some [true, true] := by kernel_rfl
@[simp] theorem tb54 : bplan Try.prog 54 = some ([(0, 1), (1, 1)], [.int .i64 0, .int .i64 0]) := by kernel_rfl
@[simp] theorem tz54 : tz Try.prog 54 = some [.int .i64 0, .int .i64 0] := by kernel_rfl
@[simp] theorem tk80 : tk Try.prog 80 = some (false, 1) := by kernel_rfl
@[simp] theorem to80 : tok Try.prog 80 = true := by kernel_rfl
@[simp] theorem tz80 : tz Try.prog 80 = some [.nilp] := by kernel_rfl
end Go.Proofs.Ytlpgadlfpigbhaa
