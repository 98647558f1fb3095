/- Closed facts on the types of the program. Printed by facts.py. -/
import Derived.Test.YticijodoelphcaaAmQ
import Derived.Test.YticijodoelphcaaProg
set_option linter.unusedSimpArgs false
set_option linter.unusedVariables false
namespace Go.Proofs.Yticijodoelphcaa
open Go Go.Am
theorem mixed : Try.prog.follows .mixedOrders = true := by kernel_rfl
@[simp] theorem tk2 : tk Try.prog 2 = some (false, 1) := by kernel_rfl
@[simp] theorem ti2 : tint Try.prog 2 = some .i64 := by kernel_rfl
@[simp] theorem to2 : tok Try.prog 2 = true := by kernel_rfl
@[simp] theorem tz2 : tz Try.prog 2 = some [.int .i64 0] := by kernel_rfl
@[simp] theorem tk3 : tk Try.prog 3 = some (false, 1) := by kernel_rfl
@[simp] theorem ti3 : tint Try.prog 3 = some .i64 := by kernel_rfl
@[simp] theorem to3 : tok Try.prog 3 = true := by kernel_rfl
@[simp] theorem tz3 : tz Try.prog 3 = some [.int .i64 0] := by kernel_rfl
@[simp] theorem tk4 : tk Try.prog 4 = some (false, 1) := by kernel_rfl
@[simp] theorem to4 : tok Try.prog 4 = true := by kernel_rfl
@[simp] theorem tz4 : tz Try.prog 4 = some [.bool false] := by kernel_rfl
@[simp] theorem tk5 : tk Try.prog 5 = some (false, 1) := by kernel_rfl
@[simp] theorem ti5 : tint Try.prog 5 = some .u8 := by kernel_rfl
@[simp] theorem to5 : tok Try.prog 5 = true := by kernel_rfl
@[simp] theorem tz5 : tz Try.prog 5 = some [.int .u8 0] := by kernel_rfl
@[simp] theorem tk12 : tk Try.prog 12 = some (false, 1) := by kernel_rfl
@[simp] theorem ti12 : tint Try.prog 12 = some .u64 := by kernel_rfl
@[simp] theorem to12 : tok Try.prog 12 = true := by kernel_rfl
@[simp] theorem tz12 : tz Try.prog 12 = some [.int .u64 0] := by kernel_rfl
@[simp] theorem tk13 : tk Try.prog 13 = some (true, 2) := by kernel_rfl
@[simp] theorem to13 : tok Try.prog 13 = true := by kernel_rfl
@[simp] theorem tf13_0 : tf Try.prog 13 0 = some (0, 1, false) := by kernel_rfl
@[simp] theorem tf13_1 : tf Try.prog 13 1 = some (1, 1, false) := by kernel_rfl
@[simp] theorem tb13 : bplan Try.prog 13 = some ([(0, 1), (1, 1)], [.undef, .int .u64 0]) := by kernel_rfl
@[simp] theorem tz13 : tz Try.prog 13 = some [.undef, .int .u64 0] := by kernel_rfl
@[simp] theorem tk21 : tk Try.prog 21 = some (false, 1) := by kernel_rfl
@[simp] theorem ti21 : tint Try.prog 21 = some .i32 := by kernel_rfl
@[simp] theorem to21 : tok Try.prog 21 = true := by kernel_rfl
@[simp] theorem tz21 : tz Try.prog 21 = some [.int .i32 0] := by kernel_rfl
@[simp] theorem tk22 : tk Try.prog 22 = some (false, 1) := by kernel_rfl
@[simp] theorem ti22 : tint Try.prog 22 = some .u32 := by kernel_rfl
@[simp] theorem to22 : tok Try.prog 22 = true := by kernel_rfl
@[simp] theorem tz22 : tz Try.prog 22 = some [.int .u32 0] := by kernel_rfl
@[simp] theorem tk23 : tk Try.prog 23 = some (false, 1) := by kernel_rfl
@[simp] theorem ti23 : tint Try.prog 23 = some .u32 := by kernel_rfl
@[simp] theorem to23 : tok Try.prog 23 = true := by kernel_rfl
@[simp] theorem tz23 : tz Try.prog 23 = some [.int .u32 0] := by kernel_rfl
@[simp] theorem tk24 : tk Try.prog 24 = some (true, 2) := by kernel_rfl
@[simp] theorem to24 : tok Try.prog 24 = true := by kernel_rfl
@[simp] theorem tf24_0 : tf Try.prog 24 0 = some (0, 1, false) := by kernel_rfl
@[simp] theorem tf24_1 : tf Try.prog 24 1 = some (1, 1, false) := by kernel_rfl
@[simp] theorem tq24 : feq Try.prog 24 = some [true, true] := by kernel_rfl
@[simp] theorem tb24 : bplan Try.prog 24 = some ([(0, 1), (1, 1)], [.int .u32 0, .int .i64 0]) := by kernel_rfl
@[simp] theorem tz24 : tz Try.prog 24 = some [.int .u32 0, .int .i64 0] := by kernel_rfl
@[simp] theorem tk25 : tk Try.prog 25 = some (true, 2) := by kernel_rfl
@[simp] theorem to25 : tok Try.prog 25 = true := by kernel_rfl
@[simp] theorem tf25_0 : tf Try.prog 25 0 = some (0, 1, false) := by kernel_rfl
@[simp] theorem tf25_1 : tf Try.prog 25 1 = some (1, 1, false) := by kernel_rfl
@[simp] theorem tq25 : feq Try.prog 25 = some [true, true] := by kernel_rfl
@[simp] theorem tb25 : bplan Try.prog 25 = some ([(0, 1), (1, 1)], [.int .u32 0, .int .i64 0]) := by kernel_rfl
@[simp] theorem tz25 : tz Try.prog 25 = some [.int .u32 0, .int .i64 0] := by kernel_rfl
@[simp] theorem tk26 : tk Try.prog 26 = some (true, 9) := by kernel_rfl
@[simp] theorem to26 : tok Try.prog 26 = true := by kernel_rfl
@[simp] theorem tf26_0 : tf Try.prog 26 0 = some (0, 1, false) := by kernel_rfl
@[simp] theorem tf26_1 : tf Try.prog 26 1 = some (1, 2, true) := by kernel_rfl
@[simp] theorem tf26_2 : tf Try.prog 26 2 = some (3, 1, false) := by kernel_rfl
@[simp] theorem tf26_3 : tf Try.prog 26 3 = some (4, 1, false) := by kernel_rfl
@[simp] theorem tf26_4 : tf Try.prog 26 4 = some (5, 1, false) := by kernel_rfl
@[simp] theorem tf26_5 : tf Try.prog 26 5 = some (6, 1, false) := by kernel_rfl
@[simp] theorem tf26_6 : tf Try.prog 26 6 = some (7, 1, false) := by kernel_rfl
@[simp] theorem tf26_7 : tf Try.prog 26 7 = some (8, 1, false) := by kernel_rfl
@[simp] theorem tq26 : feq Try.prog 26 = some [true, true, true, true, true, true, true, true, true] := by kernel_rfl
@[simp] theorem tb26 : bplan Try.prog 26 = some ([(0, 1), (1, 2), (3, 1), (4, 1), (5, 1), (6, 1), (7, 1), (8, 1)], [.int .i64 0, .int .u32 0, .int .i64 0, .int .u32 0, .int .u32 0, .int .i64 0, .int .i64 0, .int .i64 0, .int .i64 0]) := by kernel_rfl
@[simp] theorem tz26 : tz Try.prog 26 = some [.int .i64 0, .int .u32 0, .int .i64 0, .int .u32 0, .int .u32 0, .int .i64 0, .int .i64 0, .int .i64 0, .int .i64 0] := by kernel_rfl
@[simp] theorem tk27 : tk Try.prog 27 = some (true, 9) := by kernel_rfl
@[simp] theorem to27 : tok Try.prog 27 = true := by kernel_rfl
@[simp] theorem tf27_0 : tf Try.prog 27 0 = some (0, 1, false) := by kernel_rfl
@[simp] theorem tf27_1 : tf Try.prog 27 1 = some (1, 2, true) := by kernel_rfl
@[simp] theorem tf27_2 : tf Try.prog 27 2 = some (3, 1, false) := by kernel_rfl
@[simp] theorem tf27_3 : tf Try.prog 27 3 = some (4, 1, false) := by kernel_rfl
@[simp] theorem tf27_4 : tf Try.prog 27 4 = some (5, 1, false) := by kernel_rfl
@[simp] theorem tf27_5 : tf Try.prog 27 5 = some (6, 1, false) := by kernel_rfl
@[simp] theorem tf27_6 : tf Try.prog 27 6 = some (7, 1, false) := by kernel_rfl
@[simp] theorem tf27_7 : tf Try.prog 27 7 = some (8, 1, false) := by kernel_rfl
@[simp] theorem tq27 : feq Try.prog 27 = some [true, true, true, true, true, true, true, true, true] := by kernel_rfl
@[simp] theorem tb27 : bplan Try.prog 27 = some ([(0, 1), (1, 2), (3, 1), (4, 1), (5, 1), (6, 1), (7, 1), (8, 1)], [.int .i64 0, .int .u32 0, .int .i64 0, .int .u32 0, .int .u32 0, .int .i64 0, .int .i64 0, .int .i64 0, .int .i64 0]) := by kernel_rfl
@[simp] theorem tz27 : tz Try.prog 27 = some [.int .i64 0, .int .u32 0, .int .i64 0, .int .u32 0, .int .u32 0, .int .i64 0, .int .i64 0, .int .i64 0, .int .i64 0] := by kernel_rfl
@[simp] theorem tk28 : tk Try.prog 28 = some (false, 1) := by kernel_rfl
@[simp] theorem to28 : tok Try.prog 28 = true := by kernel_rfl
@[simp] theorem te28 : te Try.prog 28 = some (15, none) := by kernel_rfl
@[simp] theorem ta28 : tap Try.prog 28 = some (15, 168) := by kernel_rfl
@[simp] theorem tcl28 : tcl Try.prog 28 = some 15 := by kernel_rfl
@[simp] theorem ts28 : tze Try.prog 28 = some [.int .u32 0, .int .u32 0, .int .i64 0, .int .u32 0, .int .u32 0, .int .i64 0, .int .i64 0, .bool false, .int .i64 0, .sl 0 [] .full, .sl 0 [] .full, .bool false, .sl 0 [] .full, .sl 0 [] .full, .int .i64 0] := by kernel_rfl
@[simp] theorem tz28 : tz Try.prog 28 = some [.sl 0 [] .full] := by kernel_rfl
@[simp] theorem tk29 : tk Try.prog 29 = some (true, 15) := by kernel_rfl
@[simp] theorem to29 : tok Try.prog 29 = true := by kernel_rfl
@[simp] theorem tf29_0 : tf Try.prog 29 0 = some (0, 9, true) := by kernel_rfl
@[simp] theorem tf29_1 : tf Try.prog 29 1 = some (9, 1, false) := by kernel_rfl
@[simp] theorem tf29_2 : tf Try.prog 29 2 = some (10, 1, false) := by kernel_rfl
@[simp] theorem tf29_3 : tf Try.prog 29 3 = some (11, 1, false) := by kernel_rfl
@[simp] theorem tf29_4 : tf Try.prog 29 4 = some (12, 1, false) := by kernel_rfl
@[simp] theorem tf29_5 : tf Try.prog 29 5 = some (13, 1, false) := by kernel_rfl
@[simp] theorem tf29_6 : tf Try.prog 29 6 = some (14, 1, false) := by kernel_rfl
@[simp] theorem tb29 : bplan Try.prog 29 = some ([(0, 9), (9, 1), (10, 1), (11, 1), (12, 1), (13, 1), (14, 1)], [.int .i64 0, .int .u32 0, .int .i64 0, .int .u32 0, .int .u32 0, .int .i64 0, .int .i64 0, .int .i64 0, .int .i64 0, .bool false, .int .u32 0, .int .u32 0, .int .i64 0, .int .i64 0, .sl 0 [] .full]) := by kernel_rfl
@[simp] theorem tz29 : tz Try.prog 29 = some [.int .i64 0, .int .u32 0, .int .i64 0, .int .u32 0, .int .u32 0, .int .i64 0, .int .i64 0, .int .i64 0, .int .i64 0, .bool false, .int .u32 0, .int .u32 0, .int .i64 0, .int .i64 0, .sl 0 [] .full] := by kernel_rfl
@[simp] theorem tk30 : tk Try.prog 30 = some (true, 15) := by kernel_rfl
@[simp] theorem to30 : tok Try.prog 30 = true := by kernel_rfl
@[simp] theorem tf30_0 : tf Try.prog 30 0 = some (0, 9, true) := by kernel_rfl
@[simp] theorem tf30_1 : tf Try.prog 30 1 = some (9, 1, false) := by kernel_rfl
@[simp] theorem tf30_2 : tf Try.prog 30 2 = some (10, 1, false) := by kernel_rfl
@[simp] theorem tf30_3 : tf Try.prog 30 3 = some (11, 1, false) := by kernel_rfl
@[simp] theorem tf30_4 : tf Try.prog 30 4 = some (12, 1, false) := by kernel_rfl
@[simp] theorem tf30_5 : tf Try.prog 30 5 = some (13, 1, false) := by kernel_rfl
@[simp] theorem tf30_6 : tf Try.prog 30 6 = some (14, 1, false) := by kernel_rfl
@[simp] theorem tb30 : bplan Try.prog 30 = some ([(0, 9), (9, 1), (10, 1), (11, 1), (12, 1), (13, 1), (14, 1)], [.int .i64 0, .int .u32 0, .int .i64 0, .int .u32 0, .int .u32 0, .int .i64 0, .int .i64 0, .int .i64 0, .int .i64 0, .bool false, .int .u32 0, .int .u32 0, .int .i64 0, .int .i64 0, .sl 0 [] .full]) := by kernel_rfl
@[simp] theorem tz30 : tz Try.prog 30 = some [.int .i64 0, .int .u32 0, .int .i64 0, .int .u32 0, .int .u32 0, .int .i64 0, .int .i64 0, .int .i64 0, .int .i64 0, .bool false, .int .u32 0, .int .u32 0, .int .i64 0, .int .i64 0, .sl 0 [] .full] := by kernel_rfl
@[simp] theorem tk31 : tk Try.prog 31 = some (false, 1) := by kernel_rfl
@[simp] theorem to31 : tok Try.prog 31 = true := by kernel_rfl
@[simp] theorem te31 : te Try.prog 31 = some (1, none) := by kernel_rfl
@[simp] theorem ta31 : tap Try.prog 31 = some (1, 4) := by kernel_rfl
@[simp] theorem tcl31 : tcl Try.prog 31 = some 1 := by kernel_rfl
@[simp] theorem ts31 : tze Try.prog 31 = some [.int .u32 0] := by kernel_rfl
@[simp] theorem tz31 : tz Try.prog 31 = some [.sl 0 [] .full] := by kernel_rfl
@[simp] theorem tk32 : tk Try.prog 32 = some (true, 7) := by kernel_rfl
@[simp] theorem to32 : tok Try.prog 32 = true := by kernel_rfl
@[simp] theorem tf32_0 : tf Try.prog 32 0 = some (0, 1, false) := by kernel_rfl
@[simp] theorem tf32_1 : tf Try.prog 32 1 = some (1, 1, false) := by kernel_rfl
@[simp] theorem tf32_2 : tf Try.prog 32 2 = some (2, 1, false) := by kernel_rfl
@[simp] theorem tf32_3 : tf Try.prog 32 3 = some (3, 1, false) := by kernel_rfl
@[simp] theorem tf32_4 : tf Try.prog 32 4 = some (4, 1, false) := by kernel_rfl
@[simp] theorem tf32_5 : tf Try.prog 32 5 = some (5, 1, false) := by kernel_rfl
@[simp] theorem tf32_6 : tf Try.prog 32 6 = some (6, 1, false) := by kernel_rfl
@[simp] theorem tb32 : bplan Try.prog 32 = some ([(0, 1), (1, 1), (2, 1), (3, 1), (4, 1), (5, 1), (6, 1)], [.int .i64 0, .int .i64 0, .int .i64 0, .int .i64 0, .int .u32 0, .int .u32 0, .sl 0 [] .full]) := by kernel_rfl
@[simp] theorem tz32 : tz Try.prog 32 = some [.int .i64 0, .int .i64 0, .int .i64 0, .int .i64 0, .int .u32 0, .int .u32 0, .sl 0 [] .full] := by kernel_rfl
@[simp] theorem tk33 : tk Try.prog 33 = some (true, 7) := by kernel_rfl
@[simp] theorem to33 : tok Try.prog 33 = true := by kernel_rfl
@[simp] theorem tf33_0 : tf Try.prog 33 0 = some (0, 1, false) := by kernel_rfl
@[simp] theorem tf33_1 : tf Try.prog 33 1 = some (1, 1, false) := by kernel_rfl
@[simp] theorem tf33_2 : tf Try.prog 33 2 = some (2, 1, false) := by kernel_rfl
@[simp] theorem tf33_3 : tf Try.prog 33 3 = some (3, 1, false) := by kernel_rfl
@[simp] theorem tf33_4 : tf Try.prog 33 4 = some (4, 1, false) := by kernel_rfl
@[simp] theorem tf33_5 : tf Try.prog 33 5 = some (5, 1, false) := by kernel_rfl
@[simp] theorem tf33_6 : tf Try.prog 33 6 = some (6, 1, false) := by kernel_rfl
@[simp] theorem tb33 : bplan Try.prog 33 = some ([(0, 1), (1, 1), (2, 1), (3, 1), (4, 1), (5, 1), (6, 1)], [.int .i64 0, .int .i64 0, .int .i64 0, .int .i64 0, .int .u32 0, .int .u32 0, .sl 0 [] .full]) := by kernel_rfl
@[simp] theorem tz33 : tz Try.prog 33 = some [.int .i64 0, .int .i64 0, .int .i64 0, .int .i64 0, .int .u32 0, .int .u32 0, .sl 0 [] .full] := by kernel_rfl
@[simp] theorem tk34 : tk Try.prog 34 = some (false, 1) := by kernel_rfl
@[simp] theorem to34 : tok Try.prog 34 = true := by kernel_rfl
@[simp] theorem te34 : te Try.prog 34 = some (7, none) := by kernel_rfl
@[simp] theorem ta34 : tap Try.prog 34 = some (7, 56) := by kernel_rfl
@[simp] theorem tcl34 : tcl Try.prog 34 = some 7 := by kernel_rfl
@[simp] theorem ts34 : tze Try.prog 34 = some [.int .i64 0, .int .u32 0, .int .i64 0, .int .u32 0, .int .i64 0, .int .i64 0, .int .i64 0] := by kernel_rfl
@[simp] theorem tz34 : tz Try.prog 34 = some [.sl 0 [] .full] := by kernel_rfl
@[simp] theorem tk35 : tk Try.prog 35 = some (false, 1) := by kernel_rfl
@[simp] theorem to35 : tok Try.prog 35 = true := by kernel_rfl
@[simp] theorem te35 : te Try.prog 35 = some (4, none) := by kernel_rfl
@[simp] theorem ta35 : tap Try.prog 35 = some (4, 32) := by kernel_rfl
@[simp] theorem tcl35 : tcl Try.prog 35 = some 4 := by kernel_rfl
@[simp] theorem ts35 : tze Try.prog 35 = some [.int .i64 0, .int .u32 0, .int .i64 0, .int .u32 0] := by kernel_rfl
@[simp] theorem tz35 : tz Try.prog 35 = some [.sl 0 [] .full] := by kernel_rfl
@[simp] theorem tk36 : tk Try.prog 36 = some (false, 1) := by kernel_rfl
@[simp] theorem to36 : tok Try.prog 36 = true := by kernel_rfl
@[simp] theorem te36 : te Try.prog 36 = some (15, none) := by kernel_rfl
@[simp] theorem ta36 : tap Try.prog 36 = some (15, 136) := by kernel_rfl
@[simp] theorem tcl36 : tcl Try.prog 36 = some 15 := by kernel_rfl
@[simp] theorem ts36 : tze Try.prog 36 = some [.int .i64 0, .int .u32 0, .int .i64 0, .int .u32 0, .int .i64 0, .int .i64 0, .int .i64 0, .bool false, .bool false, .sl 0 [] .full, .sl 0 [] .full, .int .i64 0, .bool false, .int .u32 0, .int .i64 0] := by kernel_rfl
@[simp] theorem tz36 : tz Try.prog 36 = some [.sl 0 [] .full] := by kernel_rfl
@[simp] theorem tk37 : tk Try.prog 37 = some (true, 18) := by kernel_rfl
@[simp] theorem to37 : tok Try.prog 37 = true := by kernel_rfl
@[simp] theorem tf37_0 : tf Try.prog 37 0 = some (0, 1, false) := by kernel_rfl
@[simp] theorem tf37_1 : tf Try.prog 37 1 = some (1, 1, false) := by kernel_rfl
@[simp] theorem tf37_2 : tf Try.prog 37 2 = some (2, 1, false) := by kernel_rfl
@[simp] theorem tf37_3 : tf Try.prog 37 3 = some (3, 1, false) := by kernel_rfl
@[simp] theorem tf37_4 : tf Try.prog 37 4 = some (4, 7, true) := by kernel_rfl
@[simp] theorem tf37_5 : tf Try.prog 37 5 = some (11, 1, false) := by kernel_rfl
@[simp] theorem tf37_6 : tf Try.prog 37 6 = some (12, 1, false) := by kernel_rfl
@[simp] theorem tf37_7 : tf Try.prog 37 7 = some (13, 1, false) := by kernel_rfl
@[simp] theorem tf37_8 : tf Try.prog 37 8 = some (14, 1, false) := by kernel_rfl
@[simp] theorem tf37_9 : tf Try.prog 37 9 = some (15, 1, false) := by kernel_rfl
@[simp] theorem tf37_10 : tf Try.prog 37 10 = some (16, 1, false) := by kernel_rfl
@[simp] theorem tf37_11 : tf Try.prog 37 11 = some (17, 1, false) := by kernel_rfl
@[simp] theorem tb37 : bplan Try.prog 37 = some ([(0, 1), (1, 1), (2, 1), (3, 1), (4, 7), (11, 1), (12, 1), (13, 1), (14, 1), (15, 1), (16, 1), (17, 1)], [.int .i64 0, .int .u32 0, .int .u32 0, .int .u32 0, .int .i64 0, .int .i64 0, .int .i64 0, .int .i64 0, .int .u32 0, .int .u32 0, .sl 0 [] .full, .int .i64 0, .bool false, .bool false, .bool false, .sl 0 [] .full, .sl 0 [] .full, .sl 0 [] .full]) := by kernel_rfl
@[simp] theorem tz37 : tz Try.prog 37 = some [.int .i64 0, .int .u32 0, .int .u32 0, .int .u32 0, .int .i64 0, .int .i64 0, .int .i64 0, .int .i64 0, .int .u32 0, .int .u32 0, .sl 0 [] .full, .int .i64 0, .bool false, .bool false, .bool false, .sl 0 [] .full, .sl 0 [] .full, .sl 0 [] .full] := by kernel_rfl
@[simp] theorem tk38 : tk Try.prog 38 = some (true, 18) := by kernel_rfl
@[simp] theorem to38 : tok Try.prog 38 = true := by kernel_rfl
@[simp] theorem tf38_0 : tf Try.prog 38 0 = some (0, 1, false) := by kernel_rfl
@[simp] theorem tf38_1 : tf Try.prog 38 1 = some (1, 1, false) := by kernel_rfl
@[simp] theorem tf38_2 : tf Try.prog 38 2 = some (2, 1, false) := by kernel_rfl
@[simp] theorem tf38_3 : tf Try.prog 38 3 = some (3, 1, false) := by kernel_rfl
@[simp] theorem tf38_4 : tf Try.prog 38 4 = some (4, 7, true) := by kernel_rfl
@[simp] theorem tf38_5 : tf Try.prog 38 5 = some (11, 1, false) := by kernel_rfl
@[simp] theorem tf38_6 : tf Try.prog 38 6 = some (12, 1, false) := by kernel_rfl
@[simp] theorem tf38_7 : tf Try.prog 38 7 = some (13, 1, false) := by kernel_rfl
@[simp] theorem tf38_8 : tf Try.prog 38 8 = some (14, 1, false) := by kernel_rfl
@[simp] theorem tf38_9 : tf Try.prog 38 9 = some (15, 1, false) := by kernel_rfl
@[simp] theorem tf38_10 : tf Try.prog 38 10 = some (16, 1, false) := by kernel_rfl
@[simp] theorem tf38_11 : tf Try.prog 38 11 = some (17, 1, false) := by kernel_rfl
@[simp] theorem tb38 : bplan Try.prog 38 = some ([(0, 1), (1, 1), (2, 1), (3, 1), (4, 7), (11, 1), (12, 1), (13, 1), (14, 1), (15, 1), (16, 1), (17, 1)], [.int .i64 0, .int .u32 0, .int .u32 0, .int .u32 0, .int .i64 0, .int .i64 0, .int .i64 0, .int .i64 0, .int .u32 0, .int .u32 0, .sl 0 [] .full, .int .i64 0, .bool false, .bool false, .bool false, .sl 0 [] .full, .sl 0 [] .full, .sl 0 [] .full]) := by kernel_rfl
@[simp] theorem tz38 : tz Try.prog 38 = some [.int .i64 0, .int .u32 0, .int .u32 0, .int .u32 0, .int .i64 0, .int .i64 0, .int .i64 0, .int .i64 0, .int .u32 0, .int .u32 0, .sl 0 [] .full, .int .i64 0, .bool false, .bool false, .bool false, .sl 0 [] .full, .sl 0 [] .full, .sl 0 [] .full] := by kernel_rfl
@[simp] theorem tk41 : tk Try.prog 41 = some (false, 1) := by kernel_rfl
@[simp] theorem ti41 : tint Try.prog 41 = some .i64 := by kernel_rfl
@[simp] theorem to41 : tok Try.prog 41 = true := by kernel_rfl
@[simp] theorem tz41 : tz Try.prog 41 = some [.int .i64 0] := by kernel_rfl
@[simp] theorem tk46 : tk Try.prog 46 = some (true, 15) := by kernel_rfl
@[simp] theorem to46 : tok Try.prog 46 = true := by kernel_rfl
@[simp] theorem tf46_0 : tf Try.prog 46 0 = some (0, 1, false) := by kernel_rfl
@[simp] theorem tf46_1 : tf Try.prog 46 1 = some (1, 1, false) := by kernel_rfl
@[simp] theorem tf46_2 : tf Try.prog 46 2 = some (2, 1, false) := by kernel_rfl
@[simp] theorem tf46_3 : tf Try.prog 46 3 = some (3, 1, false) := by kernel_rfl
@[simp] theorem tf46_4 : tf Try.prog 46 4 = some (4, 1, false) := by kernel_rfl
@[simp] theorem tf46_5 : tf Try.prog 46 5 = some (5, 1, false) := by kernel_rfl
@[simp] theorem tf46_6 : tf Try.prog 46 6 = some (6, 1, false) := by kernel_rfl
@[simp] theorem tf46_7 : tf Try.prog 46 7 = some (7, 1, false) := by kernel_rfl
@[simp] theorem tf46_8 : tf Try.prog 46 8 = some (8, 1, false) := by kernel_rfl
@[simp] theorem tf46_9 : tf Try.prog 46 9 = some (9, 1, false) := by kernel_rfl
@[simp] theorem tf46_10 : tf Try.prog 46 10 = some (10, 1, false) := by kernel_rfl
@[simp] theorem tf46_11 : tf Try.prog 46 11 = some (11, 1, false) := by kernel_rfl
@[simp] theorem tf46_12 : tf Try.prog 46 12 = some (12, 1, false) := by kernel_rfl
@[simp] theorem tf46_13 : tf Try.prog 46 13 = some (13, 1, false) := by kernel_rfl
@[simp] theorem tf46_14 : tf Try.prog 46 14 = some (14, 1, false) := by kernel_rfl
@[simp] theorem tb46 : bplan Try.prog 46 = some ([(0, 1), (1, 1), (2, 1), (3, 1), (4, 1), (5, 1), (6, 1), (7, 1), (8, 1), (9, 1), (10, 1), (11, 1), (12, 1), (13, 1), (14, 1)], [.int .u32 0, .int .u32 0, .int .i64 0, .int .u32 0, .int .u32 0, .int .i64 0, .int .i64 0, .bool false, .int .i64 0, .sl 0 [] .full, .sl 0 [] .full, .bool false, .sl 0 [] .full, .sl 0 [] .full, .int .i64 0]) := by kernel_rfl
@[simp] theorem tz46 : tz Try.prog 46 = some [.int .u32 0, .int .u32 0, .int .i64 0, .int .u32 0, .int .u32 0, .int .i64 0, .int .i64 0, .bool false, .int .i64 0, .sl 0 [] .full, .sl 0 [] .full, .bool false, .sl 0 [] .full, .sl 0 [] .full, .int .i64 0] := by kernel_rfl
@[simp] theorem tk47 : tk Try.prog 47 = some (true, 15) := by kernel_rfl
@[simp] theorem to47 : tok Try.prog 47 = true := by kernel_rfl
@[simp] theorem tf47_0 : tf Try.prog 47 0 = some (0, 1, false) := by kernel_rfl
@[simp] theorem tf47_1 : tf Try.prog 47 1 = some (1, 1, false) := by kernel_rfl
@[simp] theorem tf47_2 : tf Try.prog 47 2 = some (2, 1, false) := by kernel_rfl
@[simp] theorem tf47_3 : tf Try.prog 47 3 = some (3, 1, false) := by kernel_rfl
@[simp] theorem tf47_4 : tf Try.prog 47 4 = some (4, 1, false) := by kernel_rfl
@[simp] theorem tf47_5 : tf Try.prog 47 5 = some (5, 1, false) := by kernel_rfl
@[simp] theorem tf47_6 : tf Try.prog 47 6 = some (6, 1, false) := by kernel_rfl
@[simp] theorem tf47_7 : tf Try.prog 47 7 = some (7, 1, false) := by kernel_rfl
@[simp] theorem tf47_8 : tf Try.prog 47 8 = some (8, 1, false) := by kernel_rfl
@[simp] theorem tf47_9 : tf Try.prog 47 9 = some (9, 1, false) := by kernel_rfl
@[simp] theorem tf47_10 : tf Try.prog 47 10 = some (10, 1, false) := by kernel_rfl
@[simp] theorem tf47_11 : tf Try.prog 47 11 = some (11, 1, false) := by kernel_rfl
@[simp] theorem tf47_12 : tf Try.prog 47 12 = some (12, 1, false) := by kernel_rfl
@[simp] theorem tf47_13 : tf Try.prog 47 13 = some (13, 1, false) := by kernel_rfl
@[simp] theorem tf47_14 : tf Try.prog 47 14 = some (14, 1, false) := by kernel_rfl
@[simp] theorem tb47 : bplan Try.prog 47 = some ([(0, 1), (1, 1), (2, 1), (3, 1), (4, 1), (5, 1), (6, 1), (7, 1), (8, 1), (9, 1), (10, 1), (11, 1), (12, 1), (13, 1), (14, 1)], [.int .u32 0, .int .u32 0, .int .i64 0, .int .u32 0, .int .u32 0, .int .i64 0, .int .i64 0, .bool false, .int .i64 0, .sl 0 [] .full, .sl 0 [] .full, .bool false, .sl 0 [] .full, .sl 0 [] .full, .int .i64 0]) := by kernel_rfl
@[simp] theorem tz47 : tz Try.prog 47 = some [.int .u32 0, .int .u32 0, .int .i64 0, .int .u32 0, .int .u32 0, .int .i64 0, .int .i64 0, .bool false, .int .i64 0, .sl 0 [] .full, .sl 0 [] .full, .bool false, .sl 0 [] .full, .sl 0 [] .full, .int .i64 0] := by kernel_rfl
@[simp] theorem tk77 : tk Try.prog 77 = some (true, 4) := by kernel_rfl
@[simp] theorem to77 : tok Try.prog 77 = true := by kernel_rfl
@[simp] theorem tf77_0 : tf Try.prog 77 0 = some (0, 1, false) := by kernel_rfl
@[simp] theorem tf77_1 : tf Try.prog 77 1 = some (1, 1, false) := by kernel_rfl
@[simp] theorem tf77_2 : tf Try.prog 77 2 = some (2, 1, false) := by kernel_rfl
@[simp] theorem tf77_3 : tf Try.prog 77 3 = some (3, 1, false) := by kernel_rfl
@[simp] theorem tq77 : feq Try.prog 77 = some [true, true, true, true] := by kernel_rfl
@[simp] theorem tb77 : bplan Try.prog 77 = some ([(0, 1), (1, 1), (2, 1), (3, 1)], [.int .i64 0, .int .u32 0, .int .i64 0, .int .u32 0]) := by kernel_rfl
@[simp] theorem tz77 : tz Try.prog 77 = some [.int .i64 0, .int .u32 0, .int .i64 0, .int .u32 0] := by kernel_rfl
@[simp] theorem tk78 : tk Try.prog 78 = some (true, 4) := by kernel_rfl
@[simp] theorem to78 : tok Try.prog 78 = true := by kernel_rfl
@[simp] theorem tf78_0 : tf Try.prog 78 0 = some (0, 1, false) := by kernel_rfl
@[simp] theorem tf78_1 : tf Try.prog 78 1 = some (1, 1, false) := by kernel_rfl
@[simp] theorem tf78_2 : tf Try.prog 78 2 = some (2, 1, false) := by kernel_rfl
@[simp] theorem tf78_3 : tf Try.prog 78 3 = some (3, 1, false) := by kernel_rfl
@[simp] theorem tq78 : feq Try.prog 78 = some [true, true, true, true] := by kernel_rfl
@[simp] theorem tb78 : bplan Try.prog 78 = some ([(0, 1), (1, 1), (2, 1), (3, 1)], [.int .i64 0, .int .u32 0, .int .i64 0, .int .u32 0]) := by kernel_rfl
@[simp] theorem tz78 : tz Try.prog 78 = some [.int .i64 0, .int .u32 0, .int .i64 0, .int .u32 0] := by kernel_rfl
@[simp] theorem tk80 : tk Try.prog 80 = some (true, 7) := by kernel_rfl
@[simp] theorem to80 : tok Try.prog 80 = true := by kernel_rfl
@[simp] theorem tf80_0 : tf Try.prog 80 0 = some (0, 1, false) := by kernel_rfl
@[simp] theorem tf80_1 : tf Try.prog 80 1 = some (1, 1, false) := by kernel_rfl
@[simp] theorem tf80_2 : tf Try.prog 80 2 = some (2, 1, false) := by kernel_rfl
@[simp] theorem tf80_3 : tf Try.prog 80 3 = some (3, 1, false) := by kernel_rfl
@[simp] theorem tf80_4 : tf Try.prog 80 4 = some (4, 1, false) := by kernel_rfl
@[simp] theorem tf80_5 : tf Try.prog 80 5 = some (5, 1, false) := by kernel_rfl
@[simp] theorem tf80_6 : tf Try.prog 80 6 = some (6, 1, false) := by kernel_rfl
@[simp] theorem tq80 : feq Try.prog 80 = some [true, true, true, true, true, true, true] := by kernel_rfl
@[simp] theorem tb80 : bplan Try.prog 80 = some ([(0, 1), (1, 1), (2, 1), (3, 1), (4, 1), (5, 1), (6, 1)], [.int .i64 0, .int .u32 0, .int .i64 0, .int .u32 0, .int .i64 0, .int .i64 0, .int .i64 0]) := by kernel_rfl
@[simp] theorem tz80 : tz Try.prog 80 = some [.int .i64 0, .int .u32 0, .int .i64 0, .int .u32 0, .int .i64 0, .int .i64 0, .int .i64 0] := by kernel_rfl
@[simp] theorem tk81 : tk Try.prog 81 = some (true, 7) := by kernel_rfl
@[simp] theorem to81 : tok Try.prog 81 = true := by kernel_rfl
@[simp] theorem tf81_0 : tf Try.prog 81 0 = some (0, 1, false) := by kernel_rfl
@[simp] theorem tf81_1 : tf Try.prog 81 1 = some (1, 1, false) := by kernel_rfl
@[simp] theorem tf81_2 : tf Try.prog 81 2 = some (2, 1, false) := by kernel_rfl
@[simp] theorem tf81_3 : tf Try.prog 81 3 = some (3, 1, false) := by kernel_rfl
@[simp] theorem tf81_4 : tf Try.prog 81 4 = some (4, 1, false) := by kernel_rfl
@[simp] theorem tf81_5 : tf Try.prog 81 5 = some (5, 1, false) := by kernel_rfl
@[simp] theorem tf81_6 : tf Try.prog 81 6 = some (6, 1, false) := by kernel_rfl
@[simp] theorem tq81 : feq Try.prog 81 = some [true, true, true, true, true, true, true] := by kernel_rfl
@[simp] theorem tb81 : bplan Try.prog 81 = some ([(0, 1), (1, 1), (2, 1), (3, 1), (4, 1), (5, 1), (6, 1)], [.int .i64 0, .int .u32 0, .int .i64 0, .int .u32 0, .int .i64 0, .int .i64 0, .int .i64 0]) := by kernel_rfl
@[simp] theorem tz81 : tz Try.prog 81 = some [.int .i64 0, .int .u32 0, .int .i64 0, .int .u32 0, .int .i64 0, .int .i64 0, .int .i64 0] := by kernel_rfl
@[simp] theorem tk82 : tk Try.prog 82 = some (false, 1) := by kernel_rfl
@[simp] theorem to82 : tok Try.prog 82 = true := by kernel_rfl
@[simp] theorem te82 : te Try.prog 82 = some (4, none) := by kernel_rfl
@[simp] theorem ta82 : tap Try.prog 82 = some (4, 24) := by kernel_rfl
@[simp] theorem tcl82 : tcl Try.prog 82 = some 4 := by kernel_rfl
@[simp] theorem ts82 : tze Try.prog 82 = some [.int .i64 0, .int .u32 0, .int .u32 0, .int .i64 0] := by kernel_rfl
@[simp] theorem tz82 : tz Try.prog 82 = some [.sl 0 [] .full] := by kernel_rfl
@[simp] theorem tk83 : tk Try.prog 83 = some (true, 15) := by kernel_rfl
@[simp] theorem to83 : tok Try.prog 83 = true := by kernel_rfl
@[simp] theorem tf83_0 : tf Try.prog 83 0 = some (0, 7, true) := by kernel_rfl
@[simp] theorem tf83_1 : tf Try.prog 83 1 = some (7, 1, false) := by kernel_rfl
@[simp] theorem tf83_2 : tf Try.prog 83 2 = some (8, 1, false) := by kernel_rfl
@[simp] theorem tf83_3 : tf Try.prog 83 3 = some (9, 1, false) := by kernel_rfl
@[simp] theorem tf83_4 : tf Try.prog 83 4 = some (10, 1, false) := by kernel_rfl
@[simp] theorem tf83_5 : tf Try.prog 83 5 = some (11, 1, false) := by kernel_rfl
@[simp] theorem tf83_6 : tf Try.prog 83 6 = some (12, 1, false) := by kernel_rfl
@[simp] theorem tf83_7 : tf Try.prog 83 7 = some (13, 1, false) := by kernel_rfl
@[simp] theorem tf83_8 : tf Try.prog 83 8 = some (14, 1, false) := by kernel_rfl
@[simp] theorem tb83 : bplan Try.prog 83 = some ([(0, 7), (7, 1), (8, 1), (9, 1), (10, 1), (11, 1), (12, 1), (13, 1), (14, 1)], [.int .i64 0, .int .u32 0, .int .i64 0, .int .u32 0, .int .i64 0, .int .i64 0, .int .i64 0, .bool false, .bool false, .sl 0 [] .full, .sl 0 [] .full, .int .i64 0, .bool false, .int .u32 0, .int .i64 0]) := by kernel_rfl
@[simp] theorem tz83 : tz Try.prog 83 = some [.int .i64 0, .int .u32 0, .int .i64 0, .int .u32 0, .int .i64 0, .int .i64 0, .int .i64 0, .bool false, .bool false, .sl 0 [] .full, .sl 0 [] .full, .int .i64 0, .bool false, .int .u32 0, .int .i64 0] := by kernel_rfl
@[simp] theorem tk84 : tk Try.prog 84 = some (true, 15) := by kernel_rfl
@[simp] theorem to84 : tok Try.prog 84 = true := by kernel_rfl
@[simp] theorem tf84_0 : tf Try.prog 84 0 = some (0, 7, true) := by kernel_rfl
@[simp] theorem tf84_1 : tf Try.prog 84 1 = some (7, 1, false) := by kernel_rfl
@[simp] theorem tf84_2 : tf Try.prog 84 2 = some (8, 1, false) := by kernel_rfl
@[simp] theorem tf84_3 : tf Try.prog 84 3 = some (9, 1, false) := by kernel_rfl
@[simp] theorem tf84_4 : tf Try.prog 84 4 = some (10, 1, false) := by kernel_rfl
@[simp] theorem tf84_5 : tf Try.prog 84 5 = some (11, 1, false) := by kernel_rfl
@[simp] theorem tf84_6 : tf Try.prog 84 6 = some (12, 1, false) := by kernel_rfl
@[simp] theorem tf84_7 : tf Try.prog 84 7 = some (13, 1, false) := by kernel_rfl
@[simp] theorem tf84_8 : tf Try.prog 84 8 = some (14, 1, false) := by kernel_rfl
@[simp] theorem tb84 : bplan Try.prog 84 = some ([(0, 7), (7, 1), (8, 1), (9, 1), (10, 1), (11, 1), (12, 1), (13, 1), (14, 1)], [.int .i64 0, .int .u32 0, .int .i64 0, .int .u32 0, .int .i64 0, .int .i64 0, .int .i64 0, .bool false, .bool false, .sl 0 [] .full, .sl 0 [] .full, .int .i64 0, .bool false, .int .u32 0, .int .i64 0]) := by kernel_rfl
@[simp] theorem tz84 : tz Try.prog 84 = some [.int .i64 0, .int .u32 0, .int .i64 0, .int .u32 0, .int .i64 0, .int .i64 0, .int .i64 0, .bool false, .bool false, .sl 0 [] .full, .sl 0 [] .full, .int .i64 0, .bool false, .int .u32 0, .int .i64 0] := by kernel_rfl
@[simp] theorem tk93 : tk Try.prog 93 = some (false, 1) := by kernel_rfl
@[simp] theorem ti93 : tint Try.prog 93 = some .u64 := by kernel_rfl
@[simp] theorem to93 : tok Try.prog 93 = true := by kernel_rfl
@[simp] theorem tz93 : tz Try.prog 93 = some [.int .u64 0] := by kernel_rfl
@[simp] theorem tk97 : tk Try.prog 97 = some (true, 4) := by kernel_rfl
@[simp] theorem to97 : tok Try.prog 97 = true := by kernel_rfl
@[simp] theorem tf97_0 : tf Try.prog 97 0 = some (0, 1, false) := by kernel_rfl
@[simp] theorem tf97_1 : tf Try.prog 97 1 = some (1, 1, false) := by kernel_rfl
@[simp] theorem tf97_2 : tf Try.prog 97 2 = some (2, 1, false) := by kernel_rfl
@[simp] theorem tf97_3 : tf Try.prog 97 3 = some (3, 1, false) := by kernel_rfl
@[simp] theorem tq97 : feq Try.prog 97 = some [true, true, true, true] := by kernel_rfl
@[simp] theorem tb97 : bplan Try.prog 97 = some ([(0, 1), (1, 1), (2, 1), (3, 1)], [.int .i64 0, .int .u32 0, .int .u32 0, .int .i64 0]) := by kernel_rfl
@[simp] theorem tz97 : tz Try.prog 97 = some [.int .i64 0, .int .u32 0, .int .u32 0, .int .i64 0] := by kernel_rfl
@[simp] theorem tk98 : tk Try.prog 98 = some (true, 4) := by kernel_rfl
@[simp] theorem to98 : tok Try.prog 98 = true := by kernel_rfl
@[simp] theorem tf98_0 : tf Try.prog 98 0 = some (0, 1, false) := by kernel_rfl
@[simp] theorem tf98_1 : tf Try.prog 98 1 = some (1, 1, false) := by kernel_rfl
@[simp] theorem tf98_2 : tf Try.prog 98 2 = some (2, 1, false) := by kernel_rfl
@[simp] theorem tf98_3 : tf Try.prog 98 3 = some (3, 1, false) := by kernel_rfl
@[simp] theorem tq98 : feq Try.prog 98 = some [true, true, true, true] := by kernel_rfl
@[simp] theorem tb98 : bplan Try.prog 98 = some ([(0, 1), (1, 1), (2, 1), (3, 1)], [.int .i64 0, .int .u32 0, .int .u32 0, .int .i64 0]) := by kernel_rfl
@[simp] theorem tz98 : tz Try.prog 98 = some [.int .i64 0, .int .u32 0, .int .u32 0, .int .i64 0] := by kernel_rfl
@[simp] theorem tk112 : tk Try.prog 112 = some (false, 1) := by kernel_rfl
@[simp] theorem to112 : tok Try.prog 112 = true := by kernel_rfl
@[simp] theorem tz112 : tz Try.prog 112 = some [.nilp] := by kernel_rfl
end Go.Proofs.Yticijodoelphcaa
