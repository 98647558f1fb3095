/- Closed facts on the types of the program. Printed by facts.py. -/
import Derived.Test.YtfngaildaoahpaaAmQ
import Derived.Test.YtfngaildaoahpaaProg
set_option linter.unusedSimpArgs false
set_option linter.unusedVariables false
namespace Go.Proofs.Ytfngaildaoahpaa
open Go Go.Am
theorem mixed : Try.prog.follows .mixedOrders = true := by kernel_rfl
@[simp] theorem tk1 : tk Try.prog 1 = some (false, 1) := by kernel_rfl
@[simp] theorem to1 : tok Try.prog 1 = true := by kernel_rfl
@[simp] theorem tz1 : tz Try.prog 1 = some [.nilf] := by kernel_rfl
@[simp] theorem tk2 : tk Try.prog 2 = some (false, 1) := by kernel_rfl
@[simp] theorem ti2 : tint Try.prog 2 = some .i64 := by kernel_rfl
@[simp] theorem to2 : tok Try.prog 2 = true := by kernel_rfl
@[simp] theorem tz2 : tz Try.prog 2 = some [.int .i64 0] := by kernel_rfl
@[simp] theorem tk3 : tk Try.prog 3 = some (false, 1) := by kernel_rfl
@[simp] theorem ti3 : tint Try.prog 3 = some .i64 := by kernel_rfl
@[simp] theorem to3 : tok Try.prog 3 = true := by kernel_rfl
@[simp] theorem tz3 : tz Try.prog 3 = some [.int .i64 0] := by kernel_rfl
@[simp] theorem tk4 : tk Try.prog 4 = some (false, 1) := by kernel_rfl
@[simp] theorem to4 : tok Try.prog 4 = true := by kernel_rfl
@[simp] theorem tz4 : tz Try.prog 4 = some [.bool false] := by kernel_rfl
@[simp] theorem tk5 : tk Try.prog 5 = some (false, 1) := by kernel_rfl
@[simp] theorem ti5 : tint Try.prog 5 = some .u8 := by kernel_rfl
@[simp] theorem to5 : tok Try.prog 5 = true := by kernel_rfl
@[simp] theorem tz5 : tz Try.prog 5 = some [.int .u8 0] := by kernel_rfl
@[simp] theorem tk12 : tk Try.prog 12 = some (false, 1) := by kernel_rfl
@[simp] theorem ti12 : tint Try.prog 12 = some .u64 := by kernel_rfl
@[simp] theorem to12 : tok Try.prog 12 = true := by kernel_rfl
@[simp] theorem tz12 : tz Try.prog 12 = some [.int .u64 0] := by kernel_rfl
@[simp] theorem tk13 : tk Try.prog 13 = some (true, 2) := by kernel_rfl
@[simp] theorem to13 : tok Try.prog 13 = true := by kernel_rfl
@[simp] theorem tf13_0 : tf Try.prog 13 0 = some (0, 1, false) := by kernel_rfl
@[simp] theorem tf13_1 : tf Try.prog 13 1 = some (1, 1, false) := by kernel_rfl
@[simp] theorem tb13 : bplan Try.prog 13 = some ([(0, 1), (1, 1)], [.undef, .int .u64 0]) := by kernel_rfl
@[simp] theorem tz13 : tz Try.prog 13 = some [.undef, .int .u64 0] := by kernel_rfl
@[simp] theorem tk21 : tk Try.prog 21 = some (false, 1) := by kernel_rfl
@[simp] theorem ti21 : tint Try.prog 21 = some .i32 := by kernel_rfl
@[simp] theorem to21 : tok Try.prog 21 = true := by kernel_rfl
@[simp] theorem tz21 : tz Try.prog 21 = some [.int .i32 0] := by kernel_rfl
@[simp] theorem tk22 : tk Try.prog 22 = some (false, 1) := by kernel_rfl
@[simp] theorem ti22 : tint Try.prog 22 = some .u32 := by kernel_rfl
@[simp] theorem to22 : tok Try.prog 22 = true := by kernel_rfl
@[simp] theorem tz22 : tz Try.prog 22 = some [.int .u32 0] := by kernel_rfl
@[simp] theorem tk23 : tk Try.prog 23 = some (false, 1) := by kernel_rfl
@[simp] theorem ti23 : tint Try.prog 23 = some .u32 := by kernel_rfl
@[simp] theorem to23 : tok Try.prog 23 = true := by kernel_rfl
@[simp] theorem tz23 : tz Try.prog 23 = some [.int .u32 0] := by kernel_rfl
@[simp] theorem tk24 : tk Try.prog 24 = some (false, 1) := by kernel_rfl
@[simp] theorem to24 : tok Try.prog 24 = true := by kernel_rfl
@[simp] theorem te24 : te Try.prog 24 = some (7, none) := by kernel_rfl
@[simp] theorem ta24 : tap Try.prog 24 = some (7, 56) := by kernel_rfl
@[simp] theorem tcl24 : tcl Try.prog 24 = some 7 := by kernel_rfl
@[simp] theorem ts24 : tze Try.prog 24 = some [.int .i64 0, .int .u32 0, .int .i64 0, .int .u32 0, .int .i64 0, .int .i64 0, .int .i64 0] := by kernel_rfl
@[simp] theorem tz24 : tz Try.prog 24 = some [.sl 0 [] .full] := by kernel_rfl
@[simp] theorem tk25 : tk Try.prog 25 = some (true, 15) := by kernel_rfl
@[simp] theorem to25 : tok Try.prog 25 = true := by kernel_rfl
@[simp] theorem tf25_0 : tf Try.prog 25 0 = some (0, 1, false) := by kernel_rfl
@[simp] theorem tf25_1 : tf Try.prog 25 1 = some (1, 1, false) := by kernel_rfl
@[simp] theorem tf25_2 : tf Try.prog 25 2 = some (2, 1, false) := by kernel_rfl
@[simp] theorem tf25_3 : tf Try.prog 25 3 = some (3, 1, false) := by kernel_rfl
@[simp] theorem tf25_4 : tf Try.prog 25 4 = some (4, 1, false) := by kernel_rfl
@[simp] theorem tf25_5 : tf Try.prog 25 5 = some (5, 1, false) := by kernel_rfl
@[simp] theorem tf25_6 : tf Try.prog 25 6 = some (6, 1, false) := by kernel_rfl
@[simp] theorem tf25_7 : tf Try.prog 25 7 = some (7, 1, false) := by kernel_rfl
@[simp] theorem tf25_8 : tf Try.prog 25 8 = some (8, 1, false) := by kernel_rfl
@[simp] theorem tf25_9 : tf Try.prog 25 9 = some (9, 1, false) := by kernel_rfl
@[simp] theorem tf25_10 : tf Try.prog 25 10 = some (10, 1, false) := by kernel_rfl
@[simp] theorem tf25_11 : tf Try.prog 25 11 = some (11, 1, false) := by kernel_rfl
@[simp] theorem tf25_12 : tf Try.prog 25 12 = some (12, 1, false) := by kernel_rfl
@[simp] theorem tf25_13 : tf Try.prog 25 13 = some (13, 1, false) := by kernel_rfl
@[simp] theorem tf25_14 : tf Try.prog 25 14 = some (14, 1, false) := by kernel_rfl
@[simp] theorem tb25 : bplan Try.prog 25 = some ([(0, 1), (1, 1), (2, 1), (3, 1), (4, 1), (5, 1), (6, 1), (7, 1), (8, 1), (9, 1), (10, 1), (11, 1), (12, 1), (13, 1), (14, 1)], [.int .u32 0, .int .u32 0, .int .i64 0, .int .u32 0, .int .u32 0, .int .i64 0, .int .i64 0, .bool false, .int .i64 0, .sl 0 [] .full, .sl 0 [] .full, .bool false, .sl 0 [] .full, .sl 0 [] .full, .int .i64 0]) := by kernel_rfl
@[simp] theorem tz25 : tz Try.prog 25 = some [.int .u32 0, .int .u32 0, .int .i64 0, .int .u32 0, .int .u32 0, .int .i64 0, .int .i64 0, .bool false, .int .i64 0, .sl 0 [] .full, .sl 0 [] .full, .bool false, .sl 0 [] .full, .sl 0 [] .full, .int .i64 0] := by kernel_rfl
@[simp] theorem tk26 : tk Try.prog 26 = some (true, 15) := by kernel_rfl
@[simp] theorem to26 : tok Try.prog 26 = true := by kernel_rfl
@[simp] theorem tf26_0 : tf Try.prog 26 0 = some (0, 1, false) := by kernel_rfl
@[simp] theorem tf26_1 : tf Try.prog 26 1 = some (1, 1, false) := by kernel_rfl
@[simp] theorem tf26_2 : tf Try.prog 26 2 = some (2, 1, false) := by kernel_rfl
@[simp] theorem tf26_3 : tf Try.prog 26 3 = some (3, 1, false) := by kernel_rfl
@[simp] theorem tf26_4 : tf Try.prog 26 4 = some (4, 1, false) := by kernel_rfl
@[simp] theorem tf26_5 : tf Try.prog 26 5 = some (5, 1, false) := by kernel_rfl
@[simp] theorem tf26_6 : tf Try.prog 26 6 = some (6, 1, false) := by kernel_rfl
@[simp] theorem tf26_7 : tf Try.prog 26 7 = some (7, 1, false) := by kernel_rfl
@[simp] theorem tf26_8 : tf Try.prog 26 8 = some (8, 1, false) := by kernel_rfl
@[simp] theorem tf26_9 : tf Try.prog 26 9 = some (9, 1, false) := by kernel_rfl
@[simp] theorem tf26_10 : tf Try.prog 26 10 = some (10, 1, false) := by kernel_rfl
@[simp] theorem tf26_11 : tf Try.prog 26 11 = some (11, 1, false) := by kernel_rfl
@[simp] theorem tf26_12 : tf Try.prog 26 12 = some (12, 1, false) := by kernel_rfl
@[simp] theorem tf26_13 : tf Try.prog 26 13 = some (13, 1, false) := by kernel_rfl
@[simp] theorem tf26_14 : tf Try.prog 26 14 = some (14, 1, false) := by kernel_rfl
@[simp] theorem tb26 : bplan Try.prog 26 = some ([(0, 1), (1, 1), (2, 1), (3, 1), (4, 1), (5, 1), (6, 1), (7, 1), (8, 1), (9, 1), (10, 1), (11, 1), (12, 1), (13, 1), (14, 1)], [.int .u32 0, .int .u32 0, .int .i64 0, .int .u32 0, .int .u32 0, .int .i64 0, .int .i64 0, .bool false, .int .i64 0, .sl 0 [] .full, .sl 0 [] .full, .bool false, .sl 0 [] .full, .sl 0 [] .full, .int .i64 0]) := by kernel_rfl
@[simp] theorem tz26 : tz Try.prog 26 = some [.int .u32 0, .int .u32 0, .int .i64 0, .int .u32 0, .int .u32 0, .int .i64 0, .int .i64 0, .bool false, .int .i64 0, .sl 0 [] .full, .sl 0 [] .full, .bool false, .sl 0 [] .full, .sl 0 [] .full, .int .i64 0] := by kernel_rfl
@[simp] theorem tk27 : tk Try.prog 27 = some (false, 1) := by kernel_rfl
@[simp] theorem to27 : tok Try.prog 27 = true := by kernel_rfl
@[simp] theorem tz27 : tz Try.prog 27 = some [.nilf] := by kernel_rfl
@[simp] theorem tk28 : tk Try.prog 28 = some (false, 1) := by kernel_rfl
@[simp] theorem to28 : tok Try.prog 28 = true := by kernel_rfl
@[simp] theorem te28 : te Try.prog 28 = some (1, none) := by kernel_rfl
@[simp] theorem ta28 : tap Try.prog 28 = some (1, 4) := by kernel_rfl
@[simp] theorem tcl28 : tcl Try.prog 28 = some 1 := by kernel_rfl
@[simp] theorem ts28 : tze Try.prog 28 = some [.int .u32 0] := by kernel_rfl
@[simp] theorem tz28 : tz Try.prog 28 = some [.sl 0 [] .full] := by kernel_rfl
@[simp] theorem tk29 : tk Try.prog 29 = some (true, 7) := by kernel_rfl
@[simp] theorem to29 : tok Try.prog 29 = true := by kernel_rfl
@[simp] theorem tf29_0 : tf Try.prog 29 0 = some (0, 1, false) := by kernel_rfl
@[simp] theorem tf29_1 : tf Try.prog 29 1 = some (1, 1, false) := by kernel_rfl
@[simp] theorem tf29_2 : tf Try.prog 29 2 = some (2, 1, false) := by kernel_rfl
@[simp] theorem tf29_3 : tf Try.prog 29 3 = some (3, 1, false) := by kernel_rfl
@[simp] theorem tf29_4 : tf Try.prog 29 4 = some (4, 1, false) := by kernel_rfl
@[simp] theorem tf29_5 : tf Try.prog 29 5 = some (5, 1, false) := by kernel_rfl
@[simp] theorem tf29_6 : tf Try.prog 29 6 = some (6, 1, false) := by kernel_rfl
@[simp] theorem tb29 : bplan Try.prog 29 = some ([(0, 1), (1, 1), (2, 1), (3, 1), (4, 1), (5, 1), (6, 1)], [.int .i64 0, .int .i64 0, .int .i64 0, .int .i64 0, .int .u32 0, .int .u32 0, .sl 0 [] .full]) := by kernel_rfl
@[simp] theorem tz29 : tz Try.prog 29 = some [.int .i64 0, .int .i64 0, .int .i64 0, .int .i64 0, .int .u32 0, .int .u32 0, .sl 0 [] .full] := by kernel_rfl
@[simp] theorem tk30 : tk Try.prog 30 = some (true, 7) := by kernel_rfl
@[simp] theorem to30 : tok Try.prog 30 = true := by kernel_rfl
@[simp] theorem tf30_0 : tf Try.prog 30 0 = some (0, 1, false) := by kernel_rfl
@[simp] theorem tf30_1 : tf Try.prog 30 1 = some (1, 1, false) := by kernel_rfl
@[simp] theorem tf30_2 : tf Try.prog 30 2 = some (2, 1, false) := by kernel_rfl
@[simp] theorem tf30_3 : tf Try.prog 30 3 = some (3, 1, false) := by kernel_rfl
@[simp] theorem tf30_4 : tf Try.prog 30 4 = some (4, 1, false) := by kernel_rfl
@[simp] theorem tf30_5 : tf Try.prog 30 5 = some (5, 1, false) := by kernel_rfl
@[simp] theorem tf30_6 : tf Try.prog 30 6 = some (6, 1, false) := by kernel_rfl
@[simp] theorem tb30 : bplan Try.prog 30 = some ([(0, 1), (1, 1), (2, 1), (3, 1), (4, 1), (5, 1), (6, 1)], [.int .i64 0, .int .i64 0, .int .i64 0, .int .i64 0, .int .u32 0, .int .u32 0, .sl 0 [] .full]) := by kernel_rfl
@[simp] theorem tz30 : tz Try.prog 30 = some [.int .i64 0, .int .i64 0, .int .i64 0, .int .i64 0, .int .u32 0, .int .u32 0, .sl 0 [] .full] := by kernel_rfl
@[simp] theorem tk31 : tk Try.prog 31 = some (false, 1) := by kernel_rfl
@[simp] theorem to31 : tok Try.prog 31 = true := by kernel_rfl
@[simp] theorem te31 : te Try.prog 31 = some (4, none) := by kernel_rfl
@[simp] theorem ta31 : tap Try.prog 31 = some (4, 32) := by kernel_rfl
@[simp] theorem tcl31 : tcl Try.prog 31 = some 4 := by kernel_rfl
@[simp] theorem ts31 : tze Try.prog 31 = some [.int .i64 0, .int .u32 0, .int .i64 0, .int .u32 0] := by kernel_rfl
@[simp] theorem tz31 : tz Try.prog 31 = some [.sl 0 [] .full] := by kernel_rfl
@[simp] theorem tk32 : tk Try.prog 32 = some (false, 1) := by kernel_rfl
@[simp] theorem to32 : tok Try.prog 32 = true := by kernel_rfl
@[simp] theorem te32 : te Try.prog 32 = some (15, none) := by kernel_rfl
@[simp] theorem ta32 : tap Try.prog 32 = some (15, 136) := by kernel_rfl
@[simp] theorem tcl32 : tcl Try.prog 32 = some 15 := by kernel_rfl
@[simp] theorem ts32 : tze Try.prog 32 = some [.int .i64 0, .int .u32 0, .int .i64 0, .int .u32 0, .int .i64 0, .int .i64 0, .int .i64 0, .bool false, .bool false, .sl 0 [] .full, .sl 0 [] .full, .int .i64 0, .bool false, .int .u32 0, .int .i64 0] := by kernel_rfl
@[simp] theorem tz32 : tz Try.prog 32 = some [.sl 0 [] .full] := by kernel_rfl
@[simp] theorem tk33 : tk Try.prog 33 = some (true, 18) := by kernel_rfl
@[simp] theorem to33 : tok Try.prog 33 = true := by kernel_rfl
@[simp] theorem tf33_0 : tf Try.prog 33 0 = some (0, 1, false) := by kernel_rfl
@[simp] theorem tf33_1 : tf Try.prog 33 1 = some (1, 1, false) := by kernel_rfl
@[simp] theorem tf33_2 : tf Try.prog 33 2 = some (2, 1, false) := by kernel_rfl
@[simp] theorem tf33_3 : tf Try.prog 33 3 = some (3, 1, false) := by kernel_rfl
@[simp] theorem tf33_4 : tf Try.prog 33 4 = some (4, 7, true) := by kernel_rfl
@[simp] theorem tf33_5 : tf Try.prog 33 5 = some (11, 1, false) := by kernel_rfl
@[simp] theorem tf33_6 : tf Try.prog 33 6 = some (12, 1, false) := by kernel_rfl
@[simp] theorem tf33_7 : tf Try.prog 33 7 = some (13, 1, false) := by kernel_rfl
@[simp] theorem tf33_8 : tf Try.prog 33 8 = some (14, 1, false) := by kernel_rfl
@[simp] theorem tf33_9 : tf Try.prog 33 9 = some (15, 1, false) := by kernel_rfl
@[simp] theorem tf33_10 : tf Try.prog 33 10 = some (16, 1, false) := by kernel_rfl
@[simp] theorem tf33_11 : tf Try.prog 33 11 = some (17, 1, false) := by kernel_rfl
@[simp] theorem tb33 : bplan Try.prog 33 = some ([(0, 1), (1, 1), (2, 1), (3, 1), (4, 7), (11, 1), (12, 1), (13, 1), (14, 1), (15, 1), (16, 1), (17, 1)], [.int .i64 0, .int .u32 0, .int .u32 0, .int .u32 0, .int .i64 0, .int .i64 0, .int .i64 0, .int .i64 0, .int .u32 0, .int .u32 0, .sl 0 [] .full, .int .i64 0, .bool false, .bool false, .bool false, .sl 0 [] .full, .sl 0 [] .full, .sl 0 [] .full]) := by kernel_rfl
@[simp] theorem tz33 : tz Try.prog 33 = some [.int .i64 0, .int .u32 0, .int .u32 0, .int .u32 0, .int .i64 0, .int .i64 0, .int .i64 0, .int .i64 0, .int .u32 0, .int .u32 0, .sl 0 [] .full, .int .i64 0, .bool false, .bool false, .bool false, .sl 0 [] .full, .sl 0 [] .full, .sl 0 [] .full] := by kernel_rfl
@[simp] theorem tk34 : tk Try.prog 34 = some (true, 18) := by kernel_rfl
@[simp] theorem to34 : tok Try.prog 34 = true := by kernel_rfl
@[simp] theorem tf34_0 : tf Try.prog 34 0 = some (0, 1, false) := by kernel_rfl
@[simp] theorem tf34_1 : tf Try.prog 34 1 = some (1, 1, false) := by kernel_rfl
@[simp] theorem tf34_2 : tf Try.prog 34 2 = some (2, 1, false) := by kernel_rfl
@[simp] theorem tf34_3 : tf Try.prog 34 3 = some (3, 1, false) := by kernel_rfl
@[simp] theorem tf34_4 : tf Try.prog 34 4 = some (4, 7, true) := by kernel_rfl
@[simp] theorem tf34_5 : tf Try.prog 34 5 = some (11, 1, false) := by kernel_rfl
@[simp] theorem tf34_6 : tf Try.prog 34 6 = some (12, 1, false) := by kernel_rfl
@[simp] theorem tf34_7 : tf Try.prog 34 7 = some (13, 1, false) := by kernel_rfl
@[simp] theorem tf34_8 : tf Try.prog 34 8 = some (14, 1, false) := by kernel_rfl
@[simp] theorem tf34_9 : tf Try.prog 34 9 = some (15, 1, false) := by kernel_rfl
@[simp] theorem tf34_10 : tf Try.prog 34 10 = some (16, 1, false) := by kernel_rfl
@[simp] theorem tf34_11 : tf Try.prog 34 11 = some (17, 1, false) := by kernel_rfl
@[simp] theorem tb34 : bplan Try.prog 34 = some ([(0, 1), (1, 1), (2, 1), (3, 1), (4, 7), (11, 1), (12, 1), (13, 1), (14, 1), (15, 1), (16, 1), (17, 1)], [.int .i64 0, .int .u32 0, .int .u32 0, .int .u32 0, .int .i64 0, .int .i64 0, .int .i64 0, .int .i64 0, .int .u32 0, .int .u32 0, .sl 0 [] .full, .int .i64 0, .bool false, .bool false, .bool false, .sl 0 [] .full, .sl 0 [] .full, .sl 0 [] .full]) := by kernel_rfl
@[simp] theorem tz34 : tz Try.prog 34 = some [.int .i64 0, .int .u32 0, .int .u32 0, .int .u32 0, .int .i64 0, .int .i64 0, .int .i64 0, .int .i64 0, .int .u32 0, .int .u32 0, .sl 0 [] .full, .int .i64 0, .bool false, .bool false, .bool false, .sl 0 [] .full, .sl 0 [] .full, .sl 0 [] .full] := by kernel_rfl
@[simp] theorem tk36 : tk Try.prog 36 = some (false, 1) := by kernel_rfl
@[simp] theorem to36 : tok Try.prog 36 = true := by kernel_rfl
@[simp] theorem tz36 : tz Try.prog 36 = some [.nilf] := by kernel_rfl
@[simp] theorem tk37 : tk Try.prog 37 = some (false, 1) := by kernel_rfl
@[simp] theorem to37 : tok Try.prog 37 = true := by kernel_rfl
@[simp] theorem tz37 : tz Try.prog 37 = some [.nilf] := by kernel_rfl
@[simp] theorem tk38 : tk Try.prog 38 = some (false, 1) := by kernel_rfl
@[simp] theorem to38 : tok Try.prog 38 = true := by kernel_rfl
@[simp] theorem tz38 : tz Try.prog 38 = some [.nilf] := by kernel_rfl
@[simp] theorem tk39 : tk Try.prog 39 = some (false, 1) := by kernel_rfl
@[simp] theorem to39 : tok Try.prog 39 = true := by kernel_rfl
@[simp] theorem tz39 : tz Try.prog 39 = some [.nilf] := by kernel_rfl
@[simp] theorem tk40 : tk Try.prog 40 = some (false, 1) := by kernel_rfl
@[simp] theorem to40 : tok Try.prog 40 = true := by kernel_rfl
@[simp] theorem tz40 : tz Try.prog 40 = some [.nilf] := by kernel_rfl
@[simp] theorem tk41 : tk Try.prog 41 = some (false, 1) := by kernel_rfl
@[simp] theorem ti41 : tint Try.prog 41 = some .i64 := by kernel_rfl
@[simp] theorem to41 : tok Try.prog 41 = true := by kernel_rfl
@[simp] theorem tz41 : tz Try.prog 41 = some [.int .i64 0] := by kernel_rfl
@[simp] theorem tk42 : tk Try.prog 42 = some (false, 1) := by kernel_rfl
@[simp] theorem to42 : tok Try.prog 42 = true := by kernel_rfl
@[simp] theorem tz42 : tz Try.prog 42 = some [.nilf] := by kernel_rfl
@[simp] theorem tk43 : tk Try.prog 43 = some (false, 1) := by kernel_rfl
@[simp] theorem to43 : tok Try.prog 43 = true := by kernel_rfl
@[simp] theorem te43 : te Try.prog 43 = some (18, none) := by kernel_rfl
@[simp] theorem ta43 : tap Try.prog 43 = some (18, 176) := by kernel_rfl
@[simp] theorem tcl43 : tcl Try.prog 43 = some 18 := by kernel_rfl
@[simp] theorem ts43 : tze Try.prog 43 = some [.int .i64 0, .int .u32 0, .int .u32 0, .int .u32 0, .int .i64 0, .int .i64 0, .int .i64 0, .int .i64 0, .int .u32 0, .int .u32 0, .sl 0 [] .full, .int .i64 0, .bool false, .bool false, .bool false, .sl 0 [] .full, .sl 0 [] .full, .sl 0 [] .full] := by kernel_rfl
@[simp] theorem tz43 : tz Try.prog 43 = some [.sl 0 [] .full] := by kernel_rfl
@[simp] theorem tk45 : tk Try.prog 45 = some (false, 1) := by kernel_rfl
@[simp] theorem to45 : tok Try.prog 45 = true := by kernel_rfl
@[simp] theorem tz45 : tz Try.prog 45 = some [.nilf] := by kernel_rfl
@[simp] theorem tk46 : tk Try.prog 46 = some (false, 1) := by kernel_rfl
@[simp] theorem to46 : tok Try.prog 46 = true := by kernel_rfl
@[simp] theorem tz46 : tz Try.prog 46 = some [.nilf] := by kernel_rfl
@[simp] theorem tk47 : tk Try.prog 47 = some (false, 1) := by kernel_rfl
@[simp] theorem to47 : tok Try.prog 47 = true := by kernel_rfl
@[simp] theorem tz47 : tz Try.prog 47 = some [.nilf] := by kernel_rfl
@[simp] theorem tk48 : tk Try.prog 48 = some (false, 1) := by kernel_rfl
@[simp] theorem to48 : tok Try.prog 48 = true := by kernel_rfl
@[simp] theorem tz48 : tz Try.prog 48 = some [.nilf] := by kernel_rfl
@[simp] theorem tk49 : tk Try.prog 49 = some (false, 1) := by kernel_rfl
@[simp] theorem to49 : tok Try.prog 49 = true := by kernel_rfl
@[simp] theorem tz49 : tz Try.prog 49 = some [.nilf] := by kernel_rfl
@[simp] theorem tk50 : tk Try.prog 50 = some (true, 4) := by kernel_rfl
@[simp] theorem to50 : tok Try.prog 50 = true := by kernel_rfl
@[simp] theorem tf50_0 : tf Try.prog 50 0 = some (0, 1, false) := by kernel_rfl
@[simp] theorem tf50_1 : tf Try.prog 50 1 = some (1, 1, false) := by kernel_rfl
@[simp] theorem tf50_2 : tf Try.prog 50 2 = some (2, 1, false) := by kernel_rfl
@[simp] theorem tf50_3 : tf Try.prog 50 3 = some (3, 1, false) := by kernel_rfl
@[simp] theorem tq50 : feq Try.prog 50 = some [true, true, true, true] := by kernel_rfl
@[simp] theorem tb50 : bplan Try.prog 50 = some ([(0, 1), (1, 1), (2, 1), (3, 1)], [.int .i64 0, .int .u32 0, .int .i64 0, .int .u32 0]) := by kernel_rfl
@[simp] theorem tz50 : tz Try.prog 50 = some [.int .i64 0, .int .u32 0, .int .i64 0, .int .u32 0] := by kernel_rfl
@[simp] theorem tk51 : tk Try.prog 51 = some (true, 4) := by kernel_rfl
@[simp] theorem to51 : tok Try.prog 51 = true := by kernel_rfl
@[simp] theorem tf51_0 : tf Try.prog 51 0 = some (0, 1, false) := by kernel_rfl
@[simp] theorem tf51_1 : tf Try.prog 51 1 = some (1, 1, false) := by kernel_rfl
@[simp] theorem tf51_2 : tf Try.prog 51 2 = some (2, 1, false) := by kernel_rfl
@[simp] theorem tf51_3 : tf Try.prog 51 3 = some (3, 1, false) := by kernel_rfl
@[simp] theorem tq51 : feq Try.prog 51 = some [true, true, true, true] := by kernel_rfl
@[simp] theorem tb51 : bplan Try.prog 51 = some ([(0, 1), (1, 1), (2, 1), (3, 1)], [.int .i64 0, .int .u32 0, .int .i64 0, .int .u32 0]) := by kernel_rfl
@[simp] theorem tz51 : tz Try.prog 51 = some [.int .i64 0, .int .u32 0, .int .i64 0, .int .u32 0] := by kernel_rfl
@[simp] theorem tk52 : tk Try.prog 52 = some (false, 1) := by kernel_rfl
@[simp] theorem to52 : tok Try.prog 52 = true := by kernel_rfl
@[simp] theorem tz52 : tz Try.prog 52 = some [.nilf] := by kernel_rfl
@[simp] theorem tk53 : tk Try.prog 53 = some (true, 7) := by kernel_rfl
@[simp] theorem to53 : tok Try.prog 53 = true := by kernel_rfl
@[simp] theorem tf53_0 : tf Try.prog 53 0 = some (0, 1, false) := by kernel_rfl
@[simp] theorem tf53_1 : tf Try.prog 53 1 = some (1, 1, false) := by kernel_rfl
@[simp] theorem tf53_2 : tf Try.prog 53 2 = some (2, 1, false) := by kernel_rfl
@[simp] theorem tf53_3 : tf Try.prog 53 3 = some (3, 1, false) := by kernel_rfl
@[simp] theorem tf53_4 : tf Try.prog 53 4 = some (4, 1, false) := by kernel_rfl
@[simp] theorem tf53_5 : tf Try.prog 53 5 = some (5, 1, false) := by kernel_rfl
@[simp] theorem tf53_6 : tf Try.prog 53 6 = some (6, 1, false) := by kernel_rfl
@[simp] theorem tq53 : feq Try.prog 53 = some [true, true, true, true, true, true, true] := by kernel_rfl
@[simp] theorem tb53 : bplan Try.prog 53 = some ([(0, 1), (1, 1), (2, 1), (3, 1), (4, 1), (5, 1), (6, 1)], [.int .i64 0, .int .u32 0, .int .i64 0, .int .u32 0, .int .i64 0, .int .i64 0, .int .i64 0]) := by kernel_rfl
@[simp] theorem tz53 : tz Try.prog 53 = some [.int .i64 0, .int .u32 0, .int .i64 0, .int .u32 0, .int .i64 0, .int .i64 0, .int .i64 0] := by kernel_rfl
@[simp] theorem tk54 : tk Try.prog 54 = some (true, 7) := by kernel_rfl
@[simp] theorem to54 : tok Try.prog 54 = true := by kernel_rfl
@[simp] theorem tf54_0 : tf Try.prog 54 0 = some (0, 1, false) := by kernel_rfl
@[simp] theorem tf54_1 : tf Try.prog 54 1 = some (1, 1, false) := by kernel_rfl
@[simp] theorem tf54_2 : tf Try.prog 54 2 = some (2, 1, false) := by kernel_rfl
@[simp] theorem tf54_3 : tf Try.prog 54 3 = some (3, 1, false) := by kernel_rfl
@[simp] theorem tf54_4 : tf Try.prog 54 4 = some (4, 1, false) := by kernel_rfl
@[simp] theorem tf54_5 : tf Try.prog 54 5 = some (5, 1, false) := by kernel_rfl
@[simp] theorem tf54_6 : tf Try.prog 54 6 = some (6, 1, false) := by kernel_rfl
@[simp] theorem tq54 : feq Try.prog 54 = some [true, true, true, true, true, true, true] := by kernel_rfl
@[simp] theorem tb54 : bplan Try.prog 54 = some ([(0, 1), (1, 1), (2, 1), (3, 1), (4, 1), (5, 1), (6, 1)], [.int .i64 0, .int .u32 0, .int .i64 0, .int .u32 0, .int .i64 0, .int .i64 0, .int .i64 0]) := by kernel_rfl
@[simp] theorem tz54 : tz Try.prog 54 = some [.int .i64 0, .int .u32 0, .int .i64 0, .int .u32 0, .int .i64 0, .int .i64 0, .int .i64 0] := by kernel_rfl
@[simp] theorem tk55 : tk Try.prog 55 = some (false, 1) := by kernel_rfl
@[simp] theorem to55 : tok Try.prog 55 = true := by kernel_rfl
@[simp] theorem tz55 : tz Try.prog 55 = some [.nilf] := by kernel_rfl
@[simp] theorem tk56 : tk Try.prog 56 = some (false, 1) := by kernel_rfl
@[simp] theorem to56 : tok Try.prog 56 = true := by kernel_rfl
@[simp] theorem tz56 : tz Try.prog 56 = some [.nilf] := by kernel_rfl
@[simp] theorem tk58 : tk Try.prog 58 = some (false, 1) := by kernel_rfl
@[simp] theorem to58 : tok Try.prog 58 = true := by kernel_rfl
@[simp] theorem tz58 : tz Try.prog 58 = some [.nilf] := by kernel_rfl
@[simp] theorem tk59 : tk Try.prog 59 = some (false, 1) := by kernel_rfl
@[simp] theorem to59 : tok Try.prog 59 = true := by kernel_rfl
@[simp] theorem tz59 : tz Try.prog 59 = some [.nilf] := by kernel_rfl
@[simp] theorem tk61 : tk Try.prog 61 = some (false, 1) := by kernel_rfl
@[simp] theorem to61 : tok Try.prog 61 = true := by kernel_rfl
@[simp] theorem tz61 : tz Try.prog 61 = some [.nilf] := by kernel_rfl
@[simp] theorem tk62 : tk Try.prog 62 = some (false, 1) := by kernel_rfl
@[simp] theorem to62 : tok Try.prog 62 = true := by kernel_rfl
@[simp] theorem tz62 : tz Try.prog 62 = some [.nilf] := by kernel_rfl
@[simp] theorem tk63 : tk Try.prog 63 = some (false, 1) := by kernel_rfl
@[simp] theorem to63 : tok Try.prog 63 = true := by kernel_rfl
@[simp] theorem tz63 : tz Try.prog 63 = some [.nilf] := by kernel_rfl
@[simp] theorem tk64 : tk Try.prog 64 = some (false, 1) := by kernel_rfl
@[simp] theorem to64 : tok Try.prog 64 = true := by kernel_rfl
@[simp] theorem tz64 : tz Try.prog 64 = some [.nilf] := by kernel_rfl
@[simp] theorem tk65 : tk Try.prog 65 = some (true, 18) := by kernel_rfl
@[simp] theorem to65 : tok Try.prog 65 = true := by kernel_rfl
@[simp] theorem tf65_0 : tf Try.prog 65 0 = some (0, 15, true) := by kernel_rfl
@[simp] theorem tf65_1 : tf Try.prog 65 1 = some (15, 1, false) := by kernel_rfl
@[simp] theorem tf65_2 : tf Try.prog 65 2 = some (16, 1, false) := by kernel_rfl
@[simp] theorem tf65_3 : tf Try.prog 65 3 = some (17, 1, false) := by kernel_rfl
@[simp] theorem tb65 : bplan Try.prog 65 = some ([(0, 15), (15, 1), (16, 1), (17, 1)], [.int .u32 0, .int .u32 0, .int .i64 0, .int .u32 0, .int .u32 0, .int .i64 0, .int .i64 0, .bool false, .int .i64 0, .sl 0 [] .full, .sl 0 [] .full, .bool false, .sl 0 [] .full, .sl 0 [] .full, .int .i64 0, .int .u32 0, .sl 0 [] .full, .sl 0 [] .full]) := by kernel_rfl
@[simp] theorem tz65 : tz Try.prog 65 = some [.int .u32 0, .int .u32 0, .int .i64 0, .int .u32 0, .int .u32 0, .int .i64 0, .int .i64 0, .bool false, .int .i64 0, .sl 0 [] .full, .sl 0 [] .full, .bool false, .sl 0 [] .full, .sl 0 [] .full, .int .i64 0, .int .u32 0, .sl 0 [] .full, .sl 0 [] .full] := by kernel_rfl
@[simp] theorem tk66 : tk Try.prog 66 = some (true, 18) := by kernel_rfl
@[simp] theorem to66 : tok Try.prog 66 = true := by kernel_rfl
@[simp] theorem tf66_0 : tf Try.prog 66 0 = some (0, 15, true) := by kernel_rfl
@[simp] theorem tf66_1 : tf Try.prog 66 1 = some (15, 1, false) := by kernel_rfl
@[simp] theorem tf66_2 : tf Try.prog 66 2 = some (16, 1, false) := by kernel_rfl
@[simp] theorem tf66_3 : tf Try.prog 66 3 = some (17, 1, false) := by kernel_rfl
@[simp] theorem tb66 : bplan Try.prog 66 = some ([(0, 15), (15, 1), (16, 1), (17, 1)], [.int .u32 0, .int .u32 0, .int .i64 0, .int .u32 0, .int .u32 0, .int .i64 0, .int .i64 0, .bool false, .int .i64 0, .sl 0 [] .full, .sl 0 [] .full, .bool false, .sl 0 [] .full, .sl 0 [] .full, .int .i64 0, .int .u32 0, .sl 0 [] .full, .sl 0 [] .full]) := by kernel_rfl
@[simp] theorem tz66 : tz Try.prog 66 = some [.int .u32 0, .int .u32 0, .int .i64 0, .int .u32 0, .int .u32 0, .int .i64 0, .int .i64 0, .bool false, .int .i64 0, .sl 0 [] .full, .sl 0 [] .full, .bool false, .sl 0 [] .full, .sl 0 [] .full, .int .i64 0, .int .u32 0, .sl 0 [] .full, .sl 0 [] .full] := by kernel_rfl
@[simp] theorem tk68 : tk Try.prog 68 = some (false, 1) := by kernel_rfl
@[simp] theorem to68 : tok Try.prog 68 = true := by kernel_rfl
@[simp] theorem tz68 : tz Try.prog 68 = some [.nilf] := by kernel_rfl
@[simp] theorem tk69 : tk Try.prog 69 = some (false, 1) := by kernel_rfl
@[simp] theorem to69 : tok Try.prog 69 = true := by kernel_rfl
@[simp] theorem tz69 : tz Try.prog 69 = some [.nilf] := by kernel_rfl
@[simp] theorem tk70 : tk Try.prog 70 = some (false, 1) := by kernel_rfl
@[simp] theorem to70 : tok Try.prog 70 = true := by kernel_rfl
@[simp] theorem tz70 : tz Try.prog 70 = some [.nilf] := by kernel_rfl
@[simp] theorem tk71 : tk Try.prog 71 = some (false, 1) := by kernel_rfl
@[simp] theorem to71 : tok Try.prog 71 = true := by kernel_rfl
@[simp] theorem tz71 : tz Try.prog 71 = some [.nilf] := by kernel_rfl
@[simp] theorem tk72 : tk Try.prog 72 = some (false, 1) := by kernel_rfl
@[simp] theorem to72 : tok Try.prog 72 = true := by kernel_rfl
@[simp] theorem tz72 : tz Try.prog 72 = some [.nilf] := by kernel_rfl
@[simp] theorem tk73 : tk Try.prog 73 = some (false, 1) := by kernel_rfl
@[simp] theorem to73 : tok Try.prog 73 = true := by kernel_rfl
@[simp] theorem tz73 : tz Try.prog 73 = some [.nilf] := by kernel_rfl
@[simp] theorem tk74 : tk Try.prog 74 = some (false, 1) := by kernel_rfl
@[simp] theorem to74 : tok Try.prog 74 = true := by kernel_rfl
@[simp] theorem tz74 : tz Try.prog 74 = some [.nilf] := by kernel_rfl
@[simp] theorem tk75 : tk Try.prog 75 = some (false, 1) := by kernel_rfl
@[simp] theorem to75 : tok Try.prog 75 = true := by kernel_rfl
@[simp] theorem tz75 : tz Try.prog 75 = some [.nilf] := by kernel_rfl
@[simp] theorem tk76 : tk Try.prog 76 = some (false, 1) := by kernel_rfl
@[simp] theorem to76 : tok Try.prog 76 = true := by kernel_rfl
@[simp] theorem tz76 : tz Try.prog 76 = some [.nilf] := by kernel_rfl
@[simp] theorem tk77 : tk Try.prog 77 = some (false, 1) := by kernel_rfl
@[simp] theorem to77 : tok Try.prog 77 = true := by kernel_rfl
@[simp] theorem tz77 : tz Try.prog 77 = some [.nilf] := by kernel_rfl
@[simp] theorem tk78 : tk Try.prog 78 = some (false, 1) := by kernel_rfl
@[simp] theorem to78 : tok Try.prog 78 = true := by kernel_rfl
@[simp] theorem te78 : te Try.prog 78 = some (4, none) := by kernel_rfl
@[simp] theorem ta78 : tap Try.prog 78 = some (4, 24) := by kernel_rfl
@[simp] theorem tcl78 : tcl Try.prog 78 = some 4 := by kernel_rfl
@[simp] theorem ts78 : tze Try.prog 78 = some [.int .i64 0, .int .u32 0, .int .u32 0, .int .i64 0] := by kernel_rfl
@[simp] theorem tz78 : tz Try.prog 78 = some [.sl 0 [] .full] := by kernel_rfl
@[simp] theorem tk79 : tk Try.prog 79 = some (true, 15) := by kernel_rfl
@[simp] theorem to79 : tok Try.prog 79 = true := by kernel_rfl
@[simp] theorem tf79_0 : tf Try.prog 79 0 = some (0, 7, true) := by kernel_rfl
@[simp] theorem tf79_1 : tf Try.prog 79 1 = some (7, 1, false) := by kernel_rfl
@[simp] theorem tf79_2 : tf Try.prog 79 2 = some (8, 1, false) := by kernel_rfl
@[simp] theorem tf79_3 : tf Try.prog 79 3 = some (9, 1, false) := by kernel_rfl
@[simp] theorem tf79_4 : tf Try.prog 79 4 = some (10, 1, false) := by kernel_rfl
@[simp] theorem tf79_5 : tf Try.prog 79 5 = some (11, 1, false) := by kernel_rfl
@[simp] theorem tf79_6 : tf Try.prog 79 6 = some (12, 1, false) := by kernel_rfl
@[simp] theorem tf79_7 : tf Try.prog 79 7 = some (13, 1, false) := by kernel_rfl
@[simp] theorem tf79_8 : tf Try.prog 79 8 = some (14, 1, false) := by kernel_rfl
@[simp] theorem tb79 : bplan Try.prog 79 = some ([(0, 7), (7, 1), (8, 1), (9, 1), (10, 1), (11, 1), (12, 1), (13, 1), (14, 1)], [.int .i64 0, .int .u32 0, .int .i64 0, .int .u32 0, .int .i64 0, .int .i64 0, .int .i64 0, .bool false, .bool false, .sl 0 [] .full, .sl 0 [] .full, .int .i64 0, .bool false, .int .u32 0, .int .i64 0]) := by kernel_rfl
@[simp] theorem tz79 : tz Try.prog 79 = some [.int .i64 0, .int .u32 0, .int .i64 0, .int .u32 0, .int .i64 0, .int .i64 0, .int .i64 0, .bool false, .bool false, .sl 0 [] .full, .sl 0 [] .full, .int .i64 0, .bool false, .int .u32 0, .int .i64 0] := by kernel_rfl
@[simp] theorem tk80 : tk Try.prog 80 = some (true, 15) := by kernel_rfl
@[simp] theorem to80 : tok Try.prog 80 = true := by kernel_rfl
@[simp] theorem tf80_0 : tf Try.prog 80 0 = some (0, 7, true) := by kernel_rfl
@[simp] theorem tf80_1 : tf Try.prog 80 1 = some (7, 1, false) := by kernel_rfl
@[simp] theorem tf80_2 : tf Try.prog 80 2 = some (8, 1, false) := by kernel_rfl
@[simp] theorem tf80_3 : tf Try.prog 80 3 = some (9, 1, false) := by kernel_rfl
@[simp] theorem tf80_4 : tf Try.prog 80 4 = some (10, 1, false) := by kernel_rfl
@[simp] theorem tf80_5 : tf Try.prog 80 5 = some (11, 1, false) := by kernel_rfl
@[simp] theorem tf80_6 : tf Try.prog 80 6 = some (12, 1, false) := by kernel_rfl
@[simp] theorem tf80_7 : tf Try.prog 80 7 = some (13, 1, false) := by kernel_rfl
@[simp] theorem tf80_8 : tf Try.prog 80 8 = some (14, 1, false) := by kernel_rfl
@[simp] theorem tb80 : bplan Try.prog 80 = some ([(0, 7), (7, 1), (8, 1), (9, 1), (10, 1), (11, 1), (12, 1), (13, 1), (14, 1)], [.int .i64 0, .int .u32 0, .int .i64 0, .int .u32 0, .int .i64 0, .int .i64 0, .int .i64 0, .bool false, .bool false, .sl 0 [] .full, .sl 0 [] .full, .int .i64 0, .bool false, .int .u32 0, .int .i64 0]) := by kernel_rfl
@[simp] theorem tz80 : tz Try.prog 80 = some [.int .i64 0, .int .u32 0, .int .i64 0, .int .u32 0, .int .i64 0, .int .i64 0, .int .i64 0, .bool false, .bool false, .sl 0 [] .full, .sl 0 [] .full, .int .i64 0, .bool false, .int .u32 0, .int .i64 0] := by kernel_rfl
@[simp] theorem tk81 : tk Try.prog 81 = some (false, 1) := by kernel_rfl
@[simp] theorem to81 : tok Try.prog 81 = true := by kernel_rfl
@[simp] theorem tz81 : tz Try.prog 81 = some [.nilp] := by kernel_rfl
@[simp] theorem tk82 : tk Try.prog 82 = some (true, 36) := by kernel_rfl
@[simp] theorem to82 : tok Try.prog 82 = true := by kernel_rfl
@[simp] theorem tf82_0 : tf Try.prog 82 0 = some (0, 15, true) := by kernel_rfl
@[simp] theorem tf82_1 : tf Try.prog 82 1 = some (15, 1, false) := by kernel_rfl
@[simp] theorem tf82_2 : tf Try.prog 82 2 = some (16, 1, false) := by kernel_rfl
@[simp] theorem tf82_3 : tf Try.prog 82 3 = some (17, 18, true) := by kernel_rfl
@[simp] theorem tf82_4 : tf Try.prog 82 4 = some (35, 1, false) := by kernel_rfl
@[simp] theorem tb82 : bplan Try.prog 82 = some ([(0, 15), (15, 1), (16, 1), (17, 18), (35, 1)], [.int .u32 0, .int .u32 0, .int .i64 0, .int .u32 0, .int .u32 0, .int .i64 0, .int .i64 0, .bool false, .int .i64 0, .sl 0 [] .full, .sl 0 [] .full, .bool false, .sl 0 [] .full, .sl 0 [] .full, .int .i64 0, .int .u32 0, .sl 0 [] .full, .int .i64 0, .int .u32 0, .int .u32 0, .int .u32 0, .int .i64 0, .int .i64 0, .int .i64 0, .int .i64 0, .int .u32 0, .int .u32 0, .sl 0 [] .full, .int .i64 0, .bool false, .bool false, .bool false, .sl 0 [] .full, .sl 0 [] .full, .sl 0 [] .full, .sl 0 [] .full]) := by kernel_rfl
@[simp] theorem tz82 : tz Try.prog 82 = some [.int .u32 0, .int .u32 0, .int .i64 0, .int .u32 0, .int .u32 0, .int .i64 0, .int .i64 0, .bool false, .int .i64 0, .sl 0 [] .full, .sl 0 [] .full, .bool false, .sl 0 [] .full, .sl 0 [] .full, .int .i64 0, .int .u32 0, .sl 0 [] .full, .int .i64 0, .int .u32 0, .int .u32 0, .int .u32 0, .int .i64 0, .int .i64 0, .int .i64 0, .int .i64 0, .int .u32 0, .int .u32 0, .sl 0 [] .full, .int .i64 0, .bool false, .bool false, .bool false, .sl 0 [] .full, .sl 0 [] .full, .sl 0 [] .full, .sl 0 [] .full] := by kernel_rfl
@[simp] theorem tk83 : tk Try.prog 83 = some (true, 36) := by kernel_rfl
@[simp] theorem to83 : tok Try.prog 83 = true := by kernel_rfl
@[simp] theorem tf83_0 : tf Try.prog 83 0 = some (0, 15, true) := by kernel_rfl
@[simp] theorem tf83_1 : tf Try.prog 83 1 = some (15, 1, false) := by kernel_rfl
@[simp] theorem tf83_2 : tf Try.prog 83 2 = some (16, 1, false) := by kernel_rfl
@[simp] theorem tf83_3 : tf Try.prog 83 3 = some (17, 18, true) := by kernel_rfl
@[simp] theorem tf83_4 : tf Try.prog 83 4 = some (35, 1, false) := by kernel_rfl
@[simp] theorem tb83 : bplan Try.prog 83 = some ([(0, 15), (15, 1), (16, 1), (17, 18), (35, 1)], [.int .u32 0, .int .u32 0, .int .i64 0, .int .u32 0, .int .u32 0, .int .i64 0, .int .i64 0, .bool false, .int .i64 0, .sl 0 [] .full, .sl 0 [] .full, .bool false, .sl 0 [] .full, .sl 0 [] .full, .int .i64 0, .int .u32 0, .sl 0 [] .full, .int .i64 0, .int .u32 0, .int .u32 0, .int .u32 0, .int .i64 0, .int .i64 0, .int .i64 0, .int .i64 0, .int .u32 0, .int .u32 0, .sl 0 [] .full, .int .i64 0, .bool false, .bool false, .bool false, .sl 0 [] .full, .sl 0 [] .full, .sl 0 [] .full, .sl 0 [] .full]) := by kernel_rfl
@[simp] theorem tz83 : tz Try.prog 83 = some [.int .u32 0, .int .u32 0, .int .i64 0, .int .u32 0, .int .u32 0, .int .i64 0, .int .i64 0, .bool false, .int .i64 0, .sl 0 [] .full, .sl 0 [] .full, .bool false, .sl 0 [] .full, .sl 0 [] .full, .int .i64 0, .int .u32 0, .sl 0 [] .full, .int .i64 0, .int .u32 0, .int .u32 0, .int .u32 0, .int .i64 0, .int .i64 0, .int .i64 0, .int .i64 0, .int .u32 0, .int .u32 0, .sl 0 [] .full, .int .i64 0, .bool false, .bool false, .bool false, .sl 0 [] .full, .sl 0 [] .full, .sl 0 [] .full, .sl 0 [] .full] := by kernel_rfl
@[simp] theorem tk84 : tk Try.prog 84 = some (false, 1) := by kernel_rfl
@[simp] theorem to84 : tok Try.prog 84 = true := by kernel_rfl
@[simp] theorem tz84 : tz Try.prog 84 = some [.nilf] := by kernel_rfl
@[simp] theorem tk85 : tk Try.prog 85 = some (false, 1) := by kernel_rfl
@[simp] theorem to85 : tok Try.prog 85 = true := by kernel_rfl
@[simp] theorem tz85 : tz Try.prog 85 = some [.nilf] := by kernel_rfl
@[simp] theorem tk86 : tk Try.prog 86 = some (false, 1) := by kernel_rfl
@[simp] theorem to86 : tok Try.prog 86 = true := by kernel_rfl
@[simp] theorem tz86 : tz Try.prog 86 = some [.nilf] := by kernel_rfl
@[simp] theorem tk87 : tk Try.prog 87 = some (false, 1) := by kernel_rfl
@[simp] theorem to87 : tok Try.prog 87 = true := by kernel_rfl
@[simp] theorem tz87 : tz Try.prog 87 = some [.nilf] := by kernel_rfl
@[simp] theorem tk88 : tk Try.prog 88 = some (false, 1) := by kernel_rfl
@[simp] theorem to88 : tok Try.prog 88 = true := by kernel_rfl
@[simp] theorem tz88 : tz Try.prog 88 = some [.nilf] := by kernel_rfl
@[simp] theorem tk89 : tk Try.prog 89 = some (false, 1) := by kernel_rfl
@[simp] theorem to89 : tok Try.prog 89 = true := by kernel_rfl
@[simp] theorem tz89 : tz Try.prog 89 = some [.nilf] := by kernel_rfl
@[simp] theorem tk90 : tk Try.prog 90 = some (false, 1) := by kernel_rfl
@[simp] theorem to90 : tok Try.prog 90 = true := by kernel_rfl
@[simp] theorem tz90 : tz Try.prog 90 = some [.nilf] := by kernel_rfl
@[simp] theorem tk92 : tk Try.prog 92 = some (false, 1) := by kernel_rfl
@[simp] theorem to92 : tok Try.prog 92 = true := by kernel_rfl
@[simp] theorem tz92 : tz Try.prog 92 = some [.nilf] := by kernel_rfl
@[simp] theorem tk93 : tk Try.prog 93 = some (false, 1) := by kernel_rfl
@[simp] theorem to93 : tok Try.prog 93 = true := by kernel_rfl
@[simp] theorem tz93 : tz Try.prog 93 = some [.nilp] := by kernel_rfl
@[simp] theorem tk94 : tk Try.prog 94 = some (false, 1) := by kernel_rfl
@[simp] theorem to94 : tok Try.prog 94 = true := by kernel_rfl
@[simp] theorem tz94 : tz Try.prog 94 = some [.nilf] := by kernel_rfl
@[simp] theorem tk95 : tk Try.prog 95 = some (false, 1) := by kernel_rfl
@[simp] theorem to95 : tok Try.prog 95 = true := by kernel_rfl
@[simp] theorem tz95 : tz Try.prog 95 = some [.nilf] := by kernel_rfl
@[simp] theorem tk96 : tk Try.prog 96 = some (false, 1) := by kernel_rfl
@[simp] theorem to96 : tok Try.prog 96 = true := by kernel_rfl
@[simp] theorem tz96 : tz Try.prog 96 = some [.nilf] := by kernel_rfl
@[simp] theorem tk97 : tk Try.prog 97 = some (false, 1) := by kernel_rfl
@[simp] theorem to97 : tok Try.prog 97 = true := by kernel_rfl
@[simp] theorem tz97 : tz Try.prog 97 = some [.nilf] := by kernel_rfl
@[simp] theorem tk98 : tk Try.prog 98 = some (false, 1) := by kernel_rfl
@[simp] theorem to98 : tok Try.prog 98 = true := by kernel_rfl
@[simp] theorem tz98 : tz Try.prog 98 = some [.nilf] := by kernel_rfl
@[simp] theorem tk99 : tk Try.prog 99 = some (false, 1) := by kernel_rfl
@[simp] theorem to99 : tok Try.prog 99 = true := by kernel_rfl
@[simp] theorem tz99 : tz Try.prog 99 = some [.nilf] := by kernel_rfl
@[simp] theorem tk100 : tk Try.prog 100 = some (false, 1) := by kernel_rfl
@[simp] theorem to100 : tok Try.prog 100 = true := by kernel_rfl
@[simp] theorem tz100 : tz Try.prog 100 = some [.nilf] := by kernel_rfl
@[simp] theorem tk101 : tk Try.prog 101 = some (false, 1) := by kernel_rfl
@[simp] theorem to101 : tok Try.prog 101 = true := by kernel_rfl
@[simp] theorem tz101 : tz Try.prog 101 = some [.nilf] := by kernel_rfl
@[simp] theorem tk102 : tk Try.prog 102 = some (false, 1) := by kernel_rfl
@[simp] theorem to102 : tok Try.prog 102 = true := by kernel_rfl
@[simp] theorem tz102 : tz Try.prog 102 = some [.nilf] := by kernel_rfl
@[simp] theorem tk103 : tk Try.prog 103 = some (false, 1) := by kernel_rfl
@[simp] theorem to103 : tok Try.prog 103 = true := by kernel_rfl
@[simp] theorem tz103 : tz Try.prog 103 = some [.nilf] := by kernel_rfl
@[simp] theorem tk104 : tk Try.prog 104 = some (false, 1) := by kernel_rfl
@[simp] theorem to104 : tok Try.prog 104 = true := by kernel_rfl
@[simp] theorem tz104 : tz Try.prog 104 = some [.nilf] := by kernel_rfl
@[simp] theorem tk105 : tk Try.prog 105 = some (false, 1) := by kernel_rfl
@[simp] theorem to105 : tok Try.prog 105 = true := by kernel_rfl
@[simp] theorem tz105 : tz Try.prog 105 = some [.nilf] := by kernel_rfl
@[simp] theorem tk106 : tk Try.prog 106 = some (false, 1) := by kernel_rfl
@[simp] theorem to106 : tok Try.prog 106 = true := by kernel_rfl
@[simp] theorem tz106 : tz Try.prog 106 = some [.nilf] := by kernel_rfl
@[simp] theorem tk107 : tk Try.prog 107 = some (true, 4) := by kernel_rfl
@[simp] theorem to107 : tok Try.prog 107 = true := by kernel_rfl
@[simp] theorem tf107_0 : tf Try.prog 107 0 = some (0, 4, true) := by kernel_rfl
@[simp] theorem tq107 : feq Try.prog 107 = some [true, true, true, true] := by kernel_rfl
@[simp] theorem tb107 : bplan Try.prog 107 = some ([(0, 4)], [.int .i64 0, .int .u32 0, .int .i64 0, .int .u32 0]) := by kernel_rfl
@[simp] theorem tz107 : tz Try.prog 107 = some [.int .i64 0, .int .u32 0, .int .i64 0, .int .u32 0] := by kernel_rfl
@[simp] theorem tk108 : tk Try.prog 108 = some (true, 4) := by kernel_rfl
@[simp] theorem to108 : tok Try.prog 108 = true := by kernel_rfl
@[simp] theorem tf108_0 : tf Try.prog 108 0 = some (0, 4, true) := by kernel_rfl
@[simp] theorem tq108 : feq Try.prog 108 = some [true, true, true, true] := by kernel_rfl
@[simp] theorem tb108 : bplan Try.prog 108 = some ([(0, 4)], [.int .i64 0, .int .u32 0, .int .i64 0, .int .u32 0]) := by kernel_rfl
@[simp] theorem tz108 : tz Try.prog 108 = some [.int .i64 0, .int .u32 0, .int .i64 0, .int .u32 0] := by kernel_rfl
@[simp] theorem tk109 : tk Try.prog 109 = some (false, 1) := by kernel_rfl
@[simp] theorem to109 : tok Try.prog 109 = true := by kernel_rfl
@[simp] theorem tz109 : tz Try.prog 109 = some [.nilf] := by kernel_rfl
@[simp] theorem tk110 : tk Try.prog 110 = some (false, 1) := by kernel_rfl
@[simp] theorem to110 : tok Try.prog 110 = true := by kernel_rfl
@[simp] theorem tz110 : tz Try.prog 110 = some [.nilf] := by kernel_rfl
@[simp] theorem tk111 : tk Try.prog 111 = some (false, 1) := by kernel_rfl
@[simp] theorem to111 : tok Try.prog 111 = true := by kernel_rfl
@[simp] theorem tz111 : tz Try.prog 111 = some [.nilf] := by kernel_rfl
@[simp] theorem tk112 : tk Try.prog 112 = some (false, 1) := by kernel_rfl
@[simp] theorem ti112 : tint Try.prog 112 = some .u64 := by kernel_rfl
@[simp] theorem to112 : tok Try.prog 112 = true := by kernel_rfl
@[simp] theorem tz112 : tz Try.prog 112 = some [.int .u64 0] := by kernel_rfl
@[simp] theorem tk113 : tk Try.prog 113 = some (false, 1) := by kernel_rfl
@[simp] theorem to113 : tok Try.prog 113 = true := by kernel_rfl
@[simp] theorem tz113 : tz Try.prog 113 = some [.nilf] := by kernel_rfl
@[simp] theorem tk114 : tk Try.prog 114 = some (true, 4) := by kernel_rfl
@[simp] theorem to114 : tok Try.prog 114 = true := by kernel_rfl
@[simp] theorem tf114_0 : tf Try.prog 114 0 = some (0, 1, false) := by kernel_rfl
@[simp] theorem tf114_1 : tf Try.prog 114 1 = some (1, 1, false) := by kernel_rfl
@[simp] theorem tf114_2 : tf Try.prog 114 2 = some (2, 1, false) := by kernel_rfl
@[simp] theorem tf114_3 : tf Try.prog 114 3 = some (3, 1, false) := by kernel_rfl
@[simp] theorem tq114 : feq Try.prog 114 = some [true, true, true, true] := by kernel_rfl
@[simp] theorem tb114 : bplan Try.prog 114 = some ([(0, 1), (1, 1), (2, 1), (3, 1)], [.int .i64 0, .int .u32 0, .int .u32 0, .int .i64 0]) := by kernel_rfl
@[simp] theorem tz114 : tz Try.prog 114 = some [.int .i64 0, .int .u32 0, .int .u32 0, .int .i64 0] := by kernel_rfl
@[simp] theorem tk115 : tk Try.prog 115 = some (true, 4) := by kernel_rfl
@[simp] theorem to115 : tok Try.prog 115 = true := by kernel_rfl
@[simp] theorem tf115_0 : tf Try.prog 115 0 = some (0, 1, false) := by kernel_rfl
@[simp] theorem tf115_1 : tf Try.prog 115 1 = some (1, 1, false) := by kernel_rfl
@[simp] theorem tf115_2 : tf Try.prog 115 2 = some (2, 1, false) := by kernel_rfl
@[simp] theorem tf115_3 : tf Try.prog 115 3 = some (3, 1, false) := by kernel_rfl
@[simp] theorem tq115 : feq Try.prog 115 = some [true, true, true, true] := by kernel_rfl
@[simp] theorem tb115 : bplan Try.prog 115 = some ([(0, 1), (1, 1), (2, 1), (3, 1)], [.int .i64 0, .int .u32 0, .int .u32 0, .int .i64 0]) := by kernel_rfl
@[simp] theorem tz115 : tz Try.prog 115 = some [.int .i64 0, .int .u32 0, .int .u32 0, .int .i64 0] := by kernel_rfl
@[simp] theorem tk116 : tk Try.prog 116 = some (false, 1) := by kernel_rfl
@[simp] theorem to116 : tok Try.prog 116 = true := by kernel_rfl
@[simp] theorem tz116 : tz Try.prog 116 = some [.nilf] := by kernel_rfl
@[simp] theorem tk117 : tk Try.prog 117 = some (false, 1) := by kernel_rfl
@[simp] theorem to117 : tok Try.prog 117 = true := by kernel_rfl
@[simp] theorem tz117 : tz Try.prog 117 = some [.nilf] := by kernel_rfl
@[simp] theorem tk118 : tk Try.prog 118 = some (false, 1) := by kernel_rfl
@[simp] theorem to118 : tok Try.prog 118 = true := by kernel_rfl
@[simp] theorem tz118 : tz Try.prog 118 = some [.nilf] := by kernel_rfl
@[simp] theorem tk120 : tk Try.prog 120 = some (false, 1) := by kernel_rfl
@[simp] theorem to120 : tok Try.prog 120 = true := by kernel_rfl
@[simp] theorem tz120 : tz Try.prog 120 = some [.nilf] := by kernel_rfl
@[simp] theorem tk121 : tk Try.prog 121 = some (false, 1) := by kernel_rfl
@[simp] theorem to121 : tok Try.prog 121 = true := by kernel_rfl
@[simp] theorem tz121 : tz Try.prog 121 = some [.nilf] := by kernel_rfl
@[simp] theorem tk122 : tk Try.prog 122 = some (false, 1) := by kernel_rfl
@[simp] theorem to122 : tok Try.prog 122 = true := by kernel_rfl
@[simp] theorem tz122 : tz Try.prog 122 = some [.nilf] := by kernel_rfl
@[simp] theorem tk123 : tk Try.prog 123 = some (false, 1) := by kernel_rfl
@[simp] theorem to123 : tok Try.prog 123 = true := by kernel_rfl
@[simp] theorem tz123 : tz Try.prog 123 = some [.nilf] := by kernel_rfl
@[simp] theorem tk124 : tk Try.prog 124 = some (false, 1) := by kernel_rfl
@[simp] theorem to124 : tok Try.prog 124 = true := by kernel_rfl
@[simp] theorem te124 : te Try.prog 124 = some (1, none) := by kernel_rfl
@[simp] theorem ta124 : tap Try.prog 124 = some (1, 8) := by kernel_rfl
@[simp] theorem tcl124 : tcl Try.prog 124 = some 1 := by kernel_rfl
@[simp] theorem ts124 : tze Try.prog 124 = some [.int .i64 0] := by kernel_rfl
@[simp] theorem tz124 : tz Try.prog 124 = some [.sl 0 [] .full] := by kernel_rfl
@[simp] theorem tk125 : tk Try.prog 125 = some (false, 1) := by kernel_rfl
@[simp] theorem to125 : tok Try.prog 125 = true := by kernel_rfl
@[simp] theorem tz125 : tz Try.prog 125 = some [.nilf] := by kernel_rfl
@[simp] theorem tk126 : tk Try.prog 126 = some (false, 1) := by kernel_rfl
@[simp] theorem to126 : tok Try.prog 126 = true := by kernel_rfl
@[simp] theorem tz126 : tz Try.prog 126 = some [.nilf] := by kernel_rfl
@[simp] theorem tk127 : tk Try.prog 127 = some (false, 1) := by kernel_rfl
@[simp] theorem to127 : tok Try.prog 127 = true := by kernel_rfl
@[simp] theorem tz127 : tz Try.prog 127 = some [.nilf] := by kernel_rfl
@[simp] theorem tk128 : tk Try.prog 128 = some (false, 1) := by kernel_rfl
@[simp] theorem to128 : tok Try.prog 128 = true := by kernel_rfl
@[simp] theorem tz128 : tz Try.prog 128 = some [.nilf] := by kernel_rfl
@[simp] theorem tk129 : tk Try.prog 129 = some (false, 1) := by kernel_rfl
@[simp] theorem to129 : tok Try.prog 129 = true := by kernel_rfl
@[simp] theorem te129 : te Try.prog 129 = some (1, none) := by kernel_rfl
@[simp] theorem ta129 : tap Try.prog 129 = some (1, 1) := by kernel_rfl
@[simp] theorem tcl129 : tcl Try.prog 129 = some 1 := by kernel_rfl
@[simp] theorem ts129 : tze Try.prog 129 = some [.int .u8 0] := by kernel_rfl
@[simp] theorem tz129 : tz Try.prog 129 = some [.sl 0 [] .full] := by kernel_rfl
@[simp] theorem tk130 : tk Try.prog 130 = some (false, 1) := by kernel_rfl
@[simp] theorem to130 : tok Try.prog 130 = true := by kernel_rfl
@[simp] theorem tz130 : tz Try.prog 130 = some [.nilf] := by kernel_rfl
@[simp] theorem tk131 : tk Try.prog 131 = some (false, 1) := by kernel_rfl
@[simp] theorem ti131 : tint Try.prog 131 = some .u64 := by kernel_rfl
@[simp] theorem to131 : tok Try.prog 131 = true := by kernel_rfl
@[simp] theorem tz131 : tz Try.prog 131 = some [.int .u64 0] := by kernel_rfl
@[simp] theorem tk132 : tk Try.prog 132 = some (false, 1) := by kernel_rfl
@[simp] theorem to132 : tok Try.prog 132 = true := by kernel_rfl
@[simp] theorem tz132 : tz Try.prog 132 = some [.nilf] := by kernel_rfl
@[simp] theorem tk134 : tk Try.prog 134 = some (false, 1) := by kernel_rfl
@[simp] theorem to134 : tok Try.prog 134 = true := by kernel_rfl
@[simp] theorem tz134 : tz Try.prog 134 = some [.nilf] := by kernel_rfl
@[simp] theorem tk135 : tk Try.prog 135 = some (false, 1) := by kernel_rfl
@[simp] theorem to135 : tok Try.prog 135 = true := by kernel_rfl
@[simp] theorem tz135 : tz Try.prog 135 = some [.nilf] := by kernel_rfl
@[simp] theorem tk136 : tk Try.prog 136 = some (false, 1) := by kernel_rfl
@[simp] theorem to136 : tok Try.prog 136 = true := by kernel_rfl
@[simp] theorem tz136 : tz Try.prog 136 = some [.nilf] := by kernel_rfl
@[simp] theorem tk137 : tk Try.prog 137 = some (false, 1) := by kernel_rfl
@[simp] theorem to137 : tok Try.prog 137 = true := by kernel_rfl
@[simp] theorem tz137 : tz Try.prog 137 = some [.nilf] := by kernel_rfl
@[simp] theorem tk138 : tk Try.prog 138 = some (false, 1) := by kernel_rfl
@[simp] theorem to138 : tok Try.prog 138 = true := by kernel_rfl
@[simp] theorem tz138 : tz Try.prog 138 = some [.nilf] := by kernel_rfl
@[simp] theorem tk139 : tk Try.prog 139 = some (false, 1) := by kernel_rfl
@[simp] theorem to139 : tok Try.prog 139 = true := by kernel_rfl
@[simp] theorem tz139 : tz Try.prog 139 = some [.nilf] := by kernel_rfl
@[simp] theorem tk140 : tk Try.prog 140 = some (false, 1) := by kernel_rfl
@[simp] theorem to140 : tok Try.prog 140 = true := by kernel_rfl
@[simp] theorem tz140 : tz Try.prog 140 = some [.nilf] := by kernel_rfl
@[simp] theorem tk141 : tk Try.prog 141 = some (false, 1) := by kernel_rfl
@[simp] theorem to141 : tok Try.prog 141 = true := by kernel_rfl
@[simp] theorem tz141 : tz Try.prog 141 = some [.nilf] := by kernel_rfl
@[simp] theorem tk147 : tk Try.prog 147 = some (false, 1) := by kernel_rfl
@[simp] theorem to147 : tok Try.prog 147 = true := by kernel_rfl
@[simp] theorem tz147 : tz Try.prog 147 = some [.nilf] := by kernel_rfl
@[simp] theorem tk150 : tk Try.prog 150 = some (false, 1) := by kernel_rfl
@[simp] theorem to150 : tok Try.prog 150 = true := by kernel_rfl
@[simp] theorem tz150 : tz Try.prog 150 = some [.nilf] := by kernel_rfl
@[simp] theorem tk151 : tk Try.prog 151 = some (false, 1) := by kernel_rfl
@[simp] theorem to151 : tok Try.prog 151 = true := by kernel_rfl
@[simp] theorem tz151 : tz Try.prog 151 = some [.nilp] := by kernel_rfl
end Go.Proofs.Ytfngaildaoahpaa
