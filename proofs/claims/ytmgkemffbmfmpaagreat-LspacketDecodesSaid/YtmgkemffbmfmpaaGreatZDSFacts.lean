/- Closed facts on the types of the program. Printed by facts.py. -/
import Derived.Test.YtmgkemffbmfmpaaGreatAmQ
import Derived.Test.YtmgkemffbmfmpaaGreatProg
set_option linter.unusedSimpArgs false
set_option linter.unusedVariables false
namespace Go.Proofs.YtmgkemffbmfmpaaGreat
open Go Go.Am
theorem mixed : Tryz.prog.follows .mixedOrders = true := by kernel_rfl
@[simp] theorem tk1 : tk Tryz.prog 1 = some (false, 1) := by kernel_rfl
@[simp] theorem to1 : tok Tryz.prog 1 = true := by kernel_rfl
@[simp] theorem tz1 : tz Tryz.prog 1 = some [.nilf] := by kernel_rfl
@[simp] theorem tk2 : tk Tryz.prog 2 = some (false, 1) := by kernel_rfl
@[simp] theorem ti2 : tint Tryz.prog 2 = some .i64 := by kernel_rfl
@[simp] theorem to2 : tok Tryz.prog 2 = true := by kernel_rfl
@[simp] theorem tz2 : tz Tryz.prog 2 = some [.int .i64 0] := by kernel_rfl
@[simp] theorem tk3 : tk Tryz.prog 3 = some (false, 1) := by kernel_rfl
@[simp] theorem ti3 : tint Tryz.prog 3 = some .i64 := by kernel_rfl
@[simp] theorem to3 : tok Tryz.prog 3 = true := by kernel_rfl
@[simp] theorem tz3 : tz Tryz.prog 3 = some [.int .i64 0] := by kernel_rfl
@[simp] theorem tk4 : tk Tryz.prog 4 = some (false, 1) := by kernel_rfl
@[simp] theorem to4 : tok Tryz.prog 4 = true := by kernel_rfl
@[simp] theorem tz4 : tz Tryz.prog 4 = some [.bool false] := by kernel_rfl
@[simp] theorem tk5 : tk Tryz.prog 5 = some (false, 1) := by kernel_rfl
@[simp] theorem ti5 : tint Tryz.prog 5 = some .u8 := by kernel_rfl
@[simp] theorem to5 : tok Tryz.prog 5 = true := by kernel_rfl
@[simp] theorem tz5 : tz Tryz.prog 5 = some [.int .u8 0] := by kernel_rfl
@[simp] theorem tk12 : tk Tryz.prog 12 = some (false, 1) := by kernel_rfl
@[simp] theorem ti12 : tint Tryz.prog 12 = some .u64 := by kernel_rfl
@[simp] theorem to12 : tok Tryz.prog 12 = true := by kernel_rfl
@[simp] theorem tz12 : tz Tryz.prog 12 = some [.int .u64 0] := by kernel_rfl
@[simp] theorem tk13 : tk Tryz.prog 13 = some (true, 2) := by kernel_rfl
@[simp] theorem to13 : tok Tryz.prog 13 = true := by kernel_rfl
@[simp] theorem tf13_0 : tf Tryz.prog 13 0 = some (0, 1, false) := by kernel_rfl
@[simp] theorem tf13_1 : tf Tryz.prog 13 1 = some (1, 1, false) := by kernel_rfl
@[simp] theorem tb13 : bplan Tryz.prog 13 = some ([(0, 1), (1, 1)], [.undef, .int .u64 0]) := by kernel_rfl
@[simp] theorem tz13 : tz Tryz.prog 13 = some [.undef, .int .u64 0] := by kernel_rfl
@[simp] theorem tk21 : tk Tryz.prog 21 = some (false, 1) := by kernel_rfl
@[simp] theorem ti21 : tint Tryz.prog 21 = some .i32 := by kernel_rfl
@[simp] theorem to21 : tok Tryz.prog 21 = true := by kernel_rfl
@[simp] theorem tz21 : tz Tryz.prog 21 = some [.int .i32 0] := by kernel_rfl
@[simp] theorem tk22 : tk Tryz.prog 22 = some (false, 1) := by kernel_rfl
@[simp] theorem to22 : tok Tryz.prog 22 = true := by kernel_rfl
@[simp] theorem te22 : te Tryz.prog 22 = some (1, none) := by kernel_rfl
@[simp] theorem ta22 : tap Tryz.prog 22 = some (1, 1) := by kernel_rfl
@[simp] theorem tcl22 : tcl Tryz.prog 22 = some 1 := by kernel_rfl
@[simp] theorem ts22 : tze Tryz.prog 22 = some [.int .u8 0] := by kernel_rfl
@[simp] theorem tz22 : tz Tryz.prog 22 = some [.sl 0 [] .full] := by kernel_rfl
@[simp] theorem tk23 : tk Tryz.prog 23 = some (false, 1) := by kernel_rfl
@[simp] theorem ti23 : tint Tryz.prog 23 = some .u32 := by kernel_rfl
@[simp] theorem to23 : tok Tryz.prog 23 = true := by kernel_rfl
@[simp] theorem tz23 : tz Tryz.prog 23 = some [.int .u32 0] := by kernel_rfl
@[simp] theorem tk24 : tk Tryz.prog 24 = some (false, 1) := by kernel_rfl
@[simp] theorem ti24 : tint Tryz.prog 24 = some .u32 := by kernel_rfl
@[simp] theorem to24 : tok Tryz.prog 24 = true := by kernel_rfl
@[simp] theorem tz24 : tz Tryz.prog 24 = some [.int .u32 0] := by kernel_rfl
@[simp] theorem tk25 : tk Tryz.prog 25 = some (false, 1) := by kernel_rfl
@[simp] theorem to25 : tok Tryz.prog 25 = true := by kernel_rfl
@[simp] theorem te25 : te Tryz.prog 25 = some (1, none) := by kernel_rfl
@[simp] theorem ta25 : tap Tryz.prog 25 = some (1, 4) := by kernel_rfl
@[simp] theorem tcl25 : tcl Tryz.prog 25 = some 1 := by kernel_rfl
@[simp] theorem ts25 : tze Tryz.prog 25 = some [.int .u32 0] := by kernel_rfl
@[simp] theorem tz25 : tz Tryz.prog 25 = some [.sl 0 [] .full] := by kernel_rfl
@[simp] theorem tk26 : tk Tryz.prog 26 = some (true, 7) := by kernel_rfl
@[simp] theorem to26 : tok Tryz.prog 26 = true := by kernel_rfl
@[simp] theorem tf26_0 : tf Tryz.prog 26 0 = some (0, 1, false) := by kernel_rfl
@[simp] theorem tf26_1 : tf Tryz.prog 26 1 = some (1, 1, false) := by kernel_rfl
@[simp] theorem tf26_2 : tf Tryz.prog 26 2 = some (2, 1, false) := by kernel_rfl
@[simp] theorem tf26_3 : tf Tryz.prog 26 3 = some (3, 1, false) := by kernel_rfl
@[simp] theorem tf26_4 : tf Tryz.prog 26 4 = some (4, 1, false) := by kernel_rfl
@[simp] theorem tf26_5 : tf Tryz.prog 26 5 = some (5, 1, false) := by kernel_rfl
@[simp] theorem tf26_6 : tf Tryz.prog 26 6 = some (6, 1, false) := by kernel_rfl
@[simp] theorem tb26 : bplan Tryz.prog 26 = some ([(0, 1), (1, 1), (2, 1), (3, 1), (4, 1), (5, 1), (6, 1)], [.int .i64 0, .int .i64 0, .int .i64 0, .int .i64 0, .int .u32 0, .int .u32 0, .sl 0 [] .full]) := by kernel_rfl
@[simp] theorem tz26 : tz Tryz.prog 26 = some [.int .i64 0, .int .i64 0, .int .i64 0, .int .i64 0, .int .u32 0, .int .u32 0, .sl 0 [] .full] := by kernel_rfl
@[simp] theorem tk27 : tk Tryz.prog 27 = some (true, 7) := by kernel_rfl
@[simp] theorem to27 : tok Tryz.prog 27 = true := by kernel_rfl
@[simp] theorem tf27_0 : tf Tryz.prog 27 0 = some (0, 1, false) := by kernel_rfl
@[simp] theorem tf27_1 : tf Tryz.prog 27 1 = some (1, 1, false) := by kernel_rfl
@[simp] theorem tf27_2 : tf Tryz.prog 27 2 = some (2, 1, false) := by kernel_rfl
@[simp] theorem tf27_3 : tf Tryz.prog 27 3 = some (3, 1, false) := by kernel_rfl
@[simp] theorem tf27_4 : tf Tryz.prog 27 4 = some (4, 1, false) := by kernel_rfl
@[simp] theorem tf27_5 : tf Tryz.prog 27 5 = some (5, 1, false) := by kernel_rfl
@[simp] theorem tf27_6 : tf Tryz.prog 27 6 = some (6, 1, false) := by kernel_rfl
@[simp] theorem tb27 : bplan Tryz.prog 27 = some ([(0, 1), (1, 1), (2, 1), (3, 1), (4, 1), (5, 1), (6, 1)], [.int .i64 0, .int .i64 0, .int .i64 0, .int .i64 0, .int .u32 0, .int .u32 0, .sl 0 [] .full]) := by kernel_rfl
@[simp] theorem tz27 : tz Tryz.prog 27 = some [.int .i64 0, .int .i64 0, .int .i64 0, .int .i64 0, .int .u32 0, .int .u32 0, .sl 0 [] .full] := by kernel_rfl
@[simp] theorem tk28 : tk Tryz.prog 28 = some (false, 1) := by kernel_rfl
@[simp] theorem to28 : tok Tryz.prog 28 = true := by kernel_rfl
@[simp] theorem te28 : te Tryz.prog 28 = some (7, none) := by kernel_rfl
@[simp] theorem ta28 : tap Tryz.prog 28 = some (7, 56) := by kernel_rfl
@[simp] theorem tcl28 : tcl Tryz.prog 28 = some 7 := by kernel_rfl
@[simp] theorem ts28 : tze Tryz.prog 28 = some [.int .i64 0, .int .u32 0, .int .i64 0, .int .u32 0, .int .i64 0, .int .i64 0, .int .i64 0] := by kernel_rfl
@[simp] theorem tz28 : tz Tryz.prog 28 = some [.sl 0 [] .full] := by kernel_rfl
@[simp] theorem tk29 : tk Tryz.prog 29 = some (false, 1) := by kernel_rfl
@[simp] theorem to29 : tok Tryz.prog 29 = true := by kernel_rfl
@[simp] theorem te29 : te Tryz.prog 29 = some (4, none) := by kernel_rfl
@[simp] theorem ta29 : tap Tryz.prog 29 = some (4, 32) := by kernel_rfl
@[simp] theorem tcl29 : tcl Tryz.prog 29 = some 4 := by kernel_rfl
@[simp] theorem ts29 : tze Tryz.prog 29 = some [.int .i64 0, .int .u32 0, .int .i64 0, .int .u32 0] := by kernel_rfl
@[simp] theorem tz29 : tz Tryz.prog 29 = some [.sl 0 [] .full] := by kernel_rfl
@[simp] theorem tk30 : tk Tryz.prog 30 = some (false, 1) := by kernel_rfl
@[simp] theorem to30 : tok Tryz.prog 30 = true := by kernel_rfl
@[simp] theorem te30 : te Tryz.prog 30 = some (15, none) := by kernel_rfl
@[simp] theorem ta30 : tap Tryz.prog 30 = some (15, 136) := by kernel_rfl
@[simp] theorem tcl30 : tcl Tryz.prog 30 = some 15 := by kernel_rfl
@[simp] theorem ts30 : tze Tryz.prog 30 = some [.int .i64 0, .int .u32 0, .int .i64 0, .int .u32 0, .int .i64 0, .int .i64 0, .int .i64 0, .bool false, .bool false, .sl 0 [] .full, .sl 0 [] .full, .int .i64 0, .bool false, .int .u32 0, .int .i64 0] := by kernel_rfl
@[simp] theorem tz30 : tz Tryz.prog 30 = some [.sl 0 [] .full] := by kernel_rfl
@[simp] theorem tk31 : tk Tryz.prog 31 = some (true, 18) := by kernel_rfl
@[simp] theorem to31 : tok Tryz.prog 31 = true := by kernel_rfl
@[simp] theorem tf31_0 : tf Tryz.prog 31 0 = some (0, 1, false) := by kernel_rfl
@[simp] theorem tf31_1 : tf Tryz.prog 31 1 = some (1, 1, false) := by kernel_rfl
@[simp] theorem tf31_2 : tf Tryz.prog 31 2 = some (2, 1, false) := by kernel_rfl
@[simp] theorem tf31_3 : tf Tryz.prog 31 3 = some (3, 1, false) := by kernel_rfl
@[simp] theorem tf31_4 : tf Tryz.prog 31 4 = some (4, 7, true) := by kernel_rfl
@[simp] theorem tf31_5 : tf Tryz.prog 31 5 = some (11, 1, false) := by kernel_rfl
@[simp] theorem tf31_6 : tf Tryz.prog 31 6 = some (12, 1, false) := by kernel_rfl
@[simp] theorem tf31_7 : tf Tryz.prog 31 7 = some (13, 1, false) := by kernel_rfl
@[simp] theorem tf31_8 : tf Tryz.prog 31 8 = some (14, 1, false) := by kernel_rfl
@[simp] theorem tf31_9 : tf Tryz.prog 31 9 = some (15, 1, false) := by kernel_rfl
@[simp] theorem tf31_10 : tf Tryz.prog 31 10 = some (16, 1, false) := by kernel_rfl
@[simp] theorem tf31_11 : tf Tryz.prog 31 11 = some (17, 1, false) := by kernel_rfl
@[simp] theorem tb31 : bplan Tryz.prog 31 = some ([(0, 1), (1, 1), (2, 1), (3, 1), (4, 7), (11, 1), (12, 1), (13, 1), (14, 1), (15, 1), (16, 1), (17, 1)], [.int .i64 0, .int .u32 0, .int .u32 0, .int .u32 0, .int .i64 0, .int .i64 0, .int .i64 0, .int .i64 0, .int .u32 0, .int .u32 0, .sl 0 [] .full, .int .i64 0, .bool false, .bool false, .bool false, .sl 0 [] .full, .sl 0 [] .full, .sl 0 [] .full]) := by kernel_rfl
@[simp] theorem tz31 : tz Tryz.prog 31 = some [.int .i64 0, .int .u32 0, .int .u32 0, .int .u32 0, .int .i64 0, .int .i64 0, .int .i64 0, .int .i64 0, .int .u32 0, .int .u32 0, .sl 0 [] .full, .int .i64 0, .bool false, .bool false, .bool false, .sl 0 [] .full, .sl 0 [] .full, .sl 0 [] .full] := by kernel_rfl
@[simp] theorem tk32 : tk Tryz.prog 32 = some (true, 18) := by kernel_rfl
@[simp] theorem to32 : tok Tryz.prog 32 = true := by kernel_rfl
@[simp] theorem tf32_0 : tf Tryz.prog 32 0 = some (0, 1, false) := by kernel_rfl
@[simp] theorem tf32_1 : tf Tryz.prog 32 1 = some (1, 1, false) := by kernel_rfl
@[simp] theorem tf32_2 : tf Tryz.prog 32 2 = some (2, 1, false) := by kernel_rfl
@[simp] theorem tf32_3 : tf Tryz.prog 32 3 = some (3, 1, false) := by kernel_rfl
@[simp] theorem tf32_4 : tf Tryz.prog 32 4 = some (4, 7, true) := by kernel_rfl
@[simp] theorem tf32_5 : tf Tryz.prog 32 5 = some (11, 1, false) := by kernel_rfl
@[simp] theorem tf32_6 : tf Tryz.prog 32 6 = some (12, 1, false) := by kernel_rfl
@[simp] theorem tf32_7 : tf Tryz.prog 32 7 = some (13, 1, false) := by kernel_rfl
@[simp] theorem tf32_8 : tf Tryz.prog 32 8 = some (14, 1, false) := by kernel_rfl
@[simp] theorem tf32_9 : tf Tryz.prog 32 9 = some (15, 1, false) := by kernel_rfl
@[simp] theorem tf32_10 : tf Tryz.prog 32 10 = some (16, 1, false) := by kernel_rfl
@[simp] theorem tf32_11 : tf Tryz.prog 32 11 = some (17, 1, false) := by kernel_rfl
@[simp] theorem tb32 : bplan Tryz.prog 32 = some ([(0, 1), (1, 1), (2, 1), (3, 1), (4, 7), (11, 1), (12, 1), (13, 1), (14, 1), (15, 1), (16, 1), (17, 1)], [.int .i64 0, .int .u32 0, .int .u32 0, .int .u32 0, .int .i64 0, .int .i64 0, .int .i64 0, .int .i64 0, .int .u32 0, .int .u32 0, .sl 0 [] .full, .int .i64 0, .bool false, .bool false, .bool false, .sl 0 [] .full, .sl 0 [] .full, .sl 0 [] .full]) := by kernel_rfl
@[simp] theorem tz32 : tz Tryz.prog 32 = some [.int .i64 0, .int .u32 0, .int .u32 0, .int .u32 0, .int .i64 0, .int .i64 0, .int .i64 0, .int .i64 0, .int .u32 0, .int .u32 0, .sl 0 [] .full, .int .i64 0, .bool false, .bool false, .bool false, .sl 0 [] .full, .sl 0 [] .full, .sl 0 [] .full] := by kernel_rfl
@[simp] theorem tk33 : tk Tryz.prog 33 = some (false, 1) := by kernel_rfl
@[simp] theorem ti33 : tint Tryz.prog 33 = some .i64 := by kernel_rfl
@[simp] theorem to33 : tok Tryz.prog 33 = true := by kernel_rfl
@[simp] theorem tz33 : tz Tryz.prog 33 = some [.int .i64 0] := by kernel_rfl
@[simp] theorem tk35 : tk Tryz.prog 35 = some (false, 1) := by kernel_rfl
@[simp] theorem to35 : tok Tryz.prog 35 = true := by kernel_rfl
@[simp] theorem tz35 : tz Tryz.prog 35 = some [.nilf] := by kernel_rfl
@[simp] theorem tk36 : tk Tryz.prog 36 = some (false, 1) := by kernel_rfl
@[simp] theorem to36 : tok Tryz.prog 36 = true := by kernel_rfl
@[simp] theorem tz36 : tz Tryz.prog 36 = some [.nilf] := by kernel_rfl
@[simp] theorem tk37 : tk Tryz.prog 37 = some (false, 1) := by kernel_rfl
@[simp] theorem to37 : tok Tryz.prog 37 = true := by kernel_rfl
@[simp] theorem tz37 : tz Tryz.prog 37 = some [.nilf] := by kernel_rfl
@[simp] theorem tk38 : tk Tryz.prog 38 = some (false, 1) := by kernel_rfl
@[simp] theorem to38 : tok Tryz.prog 38 = true := by kernel_rfl
@[simp] theorem tz38 : tz Tryz.prog 38 = some [.nilf] := by kernel_rfl
@[simp] theorem tk39 : tk Tryz.prog 39 = some (false, 1) := by kernel_rfl
@[simp] theorem to39 : tok Tryz.prog 39 = true := by kernel_rfl
@[simp] theorem tz39 : tz Tryz.prog 39 = some [.nilf] := by kernel_rfl
@[simp] theorem tk40 : tk Tryz.prog 40 = some (false, 1) := by kernel_rfl
@[simp] theorem to40 : tok Tryz.prog 40 = true := by kernel_rfl
@[simp] theorem tz40 : tz Tryz.prog 40 = some [.nilp] := by kernel_rfl
@[simp] theorem tk41 : tk Tryz.prog 41 = some (true, 2) := by kernel_rfl
@[simp] theorem to41 : tok Tryz.prog 41 = true := by kernel_rfl
@[simp] theorem tf41_0 : tf Tryz.prog 41 0 = some (0, 1, false) := by kernel_rfl
@[simp] theorem tf41_1 : tf Tryz.prog 41 1 = some (1, 1, false) := by kernel_rfl
@[simp] theorem tb41 : bplan Tryz.prog 41 = some ([(0, 1), (1, 1)], [.sl 0 [] .full, .int .i64 0]) := by kernel_rfl
@[simp] theorem tz41 : tz Tryz.prog 41 = some [.sl 0 [] .full, .int .i64 0] := by kernel_rfl
@[simp] theorem tk42 : tk Tryz.prog 42 = some (true, 2) := by kernel_rfl
@[simp] theorem to42 : tok Tryz.prog 42 = true := by kernel_rfl
@[simp] theorem tf42_0 : tf Tryz.prog 42 0 = some (0, 1, false) := by kernel_rfl
@[simp] theorem tf42_1 : tf Tryz.prog 42 1 = some (1, 1, false) := by kernel_rfl
@[simp] theorem tb42 : bplan Tryz.prog 42 = some ([(0, 1), (1, 1)], [.sl 0 [] .full, .int .i64 0]) := by kernel_rfl
@[simp] theorem tz42 : tz Tryz.prog 42 = some [.sl 0 [] .full, .int .i64 0] := by kernel_rfl
@[simp] theorem tk43 : tk Tryz.prog 43 = some (false, 1) := by kernel_rfl
@[simp] theorem ti43 : tint Tryz.prog 43 = some .u64 := by kernel_rfl
@[simp] theorem to43 : tok Tryz.prog 43 = true := by kernel_rfl
@[simp] theorem tz43 : tz Tryz.prog 43 = some [.int .u64 0] := by kernel_rfl
@[simp] theorem tk44 : tk Tryz.prog 44 = some (false, 1) := by kernel_rfl
@[simp] theorem to44 : tok Tryz.prog 44 = true := by kernel_rfl
@[simp] theorem tz44 : tz Tryz.prog 44 = some [.nilf] := by kernel_rfl
@[simp] theorem tk45 : tk Tryz.prog 45 = some (false, 1) := by kernel_rfl
@[simp] theorem to45 : tok Tryz.prog 45 = true := by kernel_rfl
@[simp] theorem tz45 : tz Tryz.prog 45 = some [.nilf] := by kernel_rfl
@[simp] theorem tk46 : tk Tryz.prog 46 = some (false, 1) := by kernel_rfl
@[simp] theorem to46 : tok Tryz.prog 46 = true := by kernel_rfl
@[simp] theorem tz46 : tz Tryz.prog 46 = some [.nilp] := by kernel_rfl
@[simp] theorem tk47 : tk Tryz.prog 47 = some (false, 1) := by kernel_rfl
@[simp] theorem to47 : tok Tryz.prog 47 = true := by kernel_rfl
@[simp] theorem tz47 : tz Tryz.prog 47 = some [.nilf] := by kernel_rfl
@[simp] theorem tk48 : tk Tryz.prog 48 = some (false, 1) := by kernel_rfl
@[simp] theorem to48 : tok Tryz.prog 48 = true := by kernel_rfl
@[simp] theorem tz48 : tz Tryz.prog 48 = some [.nilf] := by kernel_rfl
@[simp] theorem tk49 : tk Tryz.prog 49 = some (false, 1) := by kernel_rfl
@[simp] theorem to49 : tok Tryz.prog 49 = true := by kernel_rfl
@[simp] theorem tz49 : tz Tryz.prog 49 = some [.nilf] := by kernel_rfl
@[simp] theorem tk50 : tk Tryz.prog 50 = some (false, 1) := by kernel_rfl
@[simp] theorem to50 : tok Tryz.prog 50 = true := by kernel_rfl
@[simp] theorem tz50 : tz Tryz.prog 50 = some [.nilf] := by kernel_rfl
@[simp] theorem tk51 : tk Tryz.prog 51 = some (false, 1) := by kernel_rfl
@[simp] theorem to51 : tok Tryz.prog 51 = true := by kernel_rfl
@[simp] theorem tz51 : tz Tryz.prog 51 = some [.nilf] := by kernel_rfl
@[simp] theorem tk52 : tk Tryz.prog 52 = some (true, 3) := by kernel_rfl
@[simp] theorem to52 : tok Tryz.prog 52 = true := by kernel_rfl
@[simp] theorem tf52_0 : tf Tryz.prog 52 0 = some (0, 1, false) := by kernel_rfl
@[simp] theorem tf52_1 : tf Tryz.prog 52 1 = some (1, 1, false) := by kernel_rfl
@[simp] theorem tf52_2 : tf Tryz.prog 52 2 = some (2, 1, false) := by kernel_rfl
@[simp] theorem tb52 : bplan Tryz.prog 52 = some ([(0, 1), (1, 1), (2, 1)], [.sl 0 [] .full, .int .i64 0, .int .i64 0]) := by kernel_rfl
@[simp] theorem tz52 : tz Tryz.prog 52 = some [.sl 0 [] .full, .int .i64 0, .int .i64 0] := by kernel_rfl
@[simp] theorem tk53 : tk Tryz.prog 53 = some (true, 3) := by kernel_rfl
@[simp] theorem to53 : tok Tryz.prog 53 = true := by kernel_rfl
@[simp] theorem tf53_0 : tf Tryz.prog 53 0 = some (0, 1, false) := by kernel_rfl
@[simp] theorem tf53_1 : tf Tryz.prog 53 1 = some (1, 1, false) := by kernel_rfl
@[simp] theorem tf53_2 : tf Tryz.prog 53 2 = some (2, 1, false) := by kernel_rfl
@[simp] theorem tb53 : bplan Tryz.prog 53 = some ([(0, 1), (1, 1), (2, 1)], [.sl 0 [] .full, .int .i64 0, .int .i64 0]) := by kernel_rfl
@[simp] theorem tz53 : tz Tryz.prog 53 = some [.sl 0 [] .full, .int .i64 0, .int .i64 0] := by kernel_rfl
@[simp] theorem tk55 : tk Tryz.prog 55 = some (false, 1) := by kernel_rfl
@[simp] theorem to55 : tok Tryz.prog 55 = true := by kernel_rfl
@[simp] theorem tz55 : tz Tryz.prog 55 = some [.nilf] := by kernel_rfl
@[simp] theorem tk56 : tk Tryz.prog 56 = some (false, 1) := by kernel_rfl
@[simp] theorem to56 : tok Tryz.prog 56 = true := by kernel_rfl
@[simp] theorem tz56 : tz Tryz.prog 56 = some [.nilf] := by kernel_rfl
@[simp] theorem tk57 : tk Tryz.prog 57 = some (false, 1) := by kernel_rfl
@[simp] theorem to57 : tok Tryz.prog 57 = true := by kernel_rfl
@[simp] theorem tz57 : tz Tryz.prog 57 = some [.nilf] := by kernel_rfl
@[simp] theorem tk58 : tk Tryz.prog 58 = some (true, 4) := by kernel_rfl
@[simp] theorem to58 : tok Tryz.prog 58 = true := by kernel_rfl
@[simp] theorem tf58_0 : tf Tryz.prog 58 0 = some (0, 1, false) := by kernel_rfl
@[simp] theorem tf58_1 : tf Tryz.prog 58 1 = some (1, 1, false) := by kernel_rfl
@[simp] theorem tf58_2 : tf Tryz.prog 58 2 = some (2, 1, false) := by kernel_rfl
@[simp] theorem tf58_3 : tf Tryz.prog 58 3 = some (3, 1, false) := by kernel_rfl
@[simp] theorem tq58 : feq Tryz.prog 58 = some [true, true, true, true] := by kernel_rfl
@[simp] theorem tb58 : bplan Tryz.prog 58 = some ([(0, 1), (1, 1), (2, 1), (3, 1)], [.int .i64 0, .int .u32 0, .int .i64 0, .int .u32 0]) := by kernel_rfl
@[simp] theorem tz58 : tz Tryz.prog 58 = some [.int .i64 0, .int .u32 0, .int .i64 0, .int .u32 0] := by kernel_rfl
@[simp] theorem tk59 : tk Tryz.prog 59 = some (true, 4) := by kernel_rfl
@[simp] theorem to59 : tok Tryz.prog 59 = true := by kernel_rfl
@[simp] theorem tf59_0 : tf Tryz.prog 59 0 = some (0, 1, false) := by kernel_rfl
@[simp] theorem tf59_1 : tf Tryz.prog 59 1 = some (1, 1, false) := by kernel_rfl
@[simp] theorem tf59_2 : tf Tryz.prog 59 2 = some (2, 1, false) := by kernel_rfl
@[simp] theorem tf59_3 : tf Tryz.prog 59 3 = some (3, 1, false) := by kernel_rfl
@[simp] theorem tq59 : feq Tryz.prog 59 = some [true, true, true, true] := by kernel_rfl
@[simp] theorem tb59 : bplan Tryz.prog 59 = some ([(0, 1), (1, 1), (2, 1), (3, 1)], [.int .i64 0, .int .u32 0, .int .i64 0, .int .u32 0]) := by kernel_rfl
@[simp] theorem tz59 : tz Tryz.prog 59 = some [.int .i64 0, .int .u32 0, .int .i64 0, .int .u32 0] := by kernel_rfl
@[simp] theorem tk60 : tk Tryz.prog 60 = some (false, 1) := by kernel_rfl
@[simp] theorem to60 : tok Tryz.prog 60 = true := by kernel_rfl
@[simp] theorem tz60 : tz Tryz.prog 60 = some [.nilf] := by kernel_rfl
@[simp] theorem tk61 : tk Tryz.prog 61 = some (true, 7) := by kernel_rfl
@[simp] theorem to61 : tok Tryz.prog 61 = true := by kernel_rfl
@[simp] theorem tf61_0 : tf Tryz.prog 61 0 = some (0, 1, false) := by kernel_rfl
@[simp] theorem tf61_1 : tf Tryz.prog 61 1 = some (1, 1, false) := by kernel_rfl
@[simp] theorem tf61_2 : tf Tryz.prog 61 2 = some (2, 1, false) := by kernel_rfl
@[simp] theorem tf61_3 : tf Tryz.prog 61 3 = some (3, 1, false) := by kernel_rfl
@[simp] theorem tf61_4 : tf Tryz.prog 61 4 = some (4, 1, false) := by kernel_rfl
@[simp] theorem tf61_5 : tf Tryz.prog 61 5 = some (5, 1, false) := by kernel_rfl
@[simp] theorem tf61_6 : tf Tryz.prog 61 6 = some (6, 1, false) := by kernel_rfl
@[simp] theorem tq61 : feq Tryz.prog 61 = some [true, true, true, true, true, true, true] := by kernel_rfl
@[simp] theorem tb61 : bplan Tryz.prog 61 = some ([(0, 1), (1, 1), (2, 1), (3, 1), (4, 1), (5, 1), (6, 1)], [.int .i64 0, .int .u32 0, .int .i64 0, .int .u32 0, .int .i64 0, .int .i64 0, .int .i64 0]) := by kernel_rfl
@[simp] theorem tz61 : tz Tryz.prog 61 = some [.int .i64 0, .int .u32 0, .int .i64 0, .int .u32 0, .int .i64 0, .int .i64 0, .int .i64 0] := by kernel_rfl
@[simp] theorem tk62 : tk Tryz.prog 62 = some (true, 7) := by kernel_rfl
@[simp] theorem to62 : tok Tryz.prog 62 = true := by kernel_rfl
@[simp] theorem tf62_0 : tf Tryz.prog 62 0 = some (0, 1, false) := by kernel_rfl
@[simp] theorem tf62_1 : tf Tryz.prog 62 1 = some (1, 1, false) := by kernel_rfl
@[simp] theorem tf62_2 : tf Tryz.prog 62 2 = some (2, 1, false) := by kernel_rfl
@[simp] theorem tf62_3 : tf Tryz.prog 62 3 = some (3, 1, false) := by kernel_rfl
@[simp] theorem tf62_4 : tf Tryz.prog 62 4 = some (4, 1, false) := by kernel_rfl
@[simp] theorem tf62_5 : tf Tryz.prog 62 5 = some (5, 1, false) := by kernel_rfl
@[simp] theorem tf62_6 : tf Tryz.prog 62 6 = some (6, 1, false) := by kernel_rfl
@[simp] theorem tq62 : feq Tryz.prog 62 = some [true, true, true, true, true, true, true] := by kernel_rfl
@[simp] theorem tb62 : bplan Tryz.prog 62 = some ([(0, 1), (1, 1), (2, 1), (3, 1), (4, 1), (5, 1), (6, 1)], [.int .i64 0, .int .u32 0, .int .i64 0, .int .u32 0, .int .i64 0, .int .i64 0, .int .i64 0]) := by kernel_rfl
@[simp] theorem tz62 : tz Tryz.prog 62 = some [.int .i64 0, .int .u32 0, .int .i64 0, .int .u32 0, .int .i64 0, .int .i64 0, .int .i64 0] := by kernel_rfl
@[simp] theorem tk63 : tk Tryz.prog 63 = some (false, 1) := by kernel_rfl
@[simp] theorem to63 : tok Tryz.prog 63 = true := by kernel_rfl
@[simp] theorem te63 : te Tryz.prog 63 = some (4, none) := by kernel_rfl
@[simp] theorem ta63 : tap Tryz.prog 63 = some (4, 24) := by kernel_rfl
@[simp] theorem tcl63 : tcl Tryz.prog 63 = some 4 := by kernel_rfl
@[simp] theorem ts63 : tze Tryz.prog 63 = some [.int .i64 0, .int .u32 0, .int .u32 0, .int .i64 0] := by kernel_rfl
@[simp] theorem tz63 : tz Tryz.prog 63 = some [.sl 0 [] .full] := by kernel_rfl
@[simp] theorem tk64 : tk Tryz.prog 64 = some (true, 15) := by kernel_rfl
@[simp] theorem to64 : tok Tryz.prog 64 = true := by kernel_rfl
@[simp] theorem tf64_0 : tf Tryz.prog 64 0 = some (0, 7, true) := by kernel_rfl
@[simp] theorem tf64_1 : tf Tryz.prog 64 1 = some (7, 1, false) := by kernel_rfl
@[simp] theorem tf64_2 : tf Tryz.prog 64 2 = some (8, 1, false) := by kernel_rfl
@[simp] theorem tf64_3 : tf Tryz.prog 64 3 = some (9, 1, false) := by kernel_rfl
@[simp] theorem tf64_4 : tf Tryz.prog 64 4 = some (10, 1, false) := by kernel_rfl
@[simp] theorem tf64_5 : tf Tryz.prog 64 5 = some (11, 1, false) := by kernel_rfl
@[simp] theorem tf64_6 : tf Tryz.prog 64 6 = some (12, 1, false) := by kernel_rfl
@[simp] theorem tf64_7 : tf Tryz.prog 64 7 = some (13, 1, false) := by kernel_rfl
@[simp] theorem tf64_8 : tf Tryz.prog 64 8 = some (14, 1, false) := by kernel_rfl
@[simp] theorem tb64 : bplan Tryz.prog 64 = some ([(0, 7), (7, 1), (8, 1), (9, 1), (10, 1), (11, 1), (12, 1), (13, 1), (14, 1)], [.int .i64 0, .int .u32 0, .int .i64 0, .int .u32 0, .int .i64 0, .int .i64 0, .int .i64 0, .bool false, .bool false, .sl 0 [] .full, .sl 0 [] .full, .int .i64 0, .bool false, .int .u32 0, .int .i64 0]) := by kernel_rfl
@[simp] theorem tz64 : tz Tryz.prog 64 = some [.int .i64 0, .int .u32 0, .int .i64 0, .int .u32 0, .int .i64 0, .int .i64 0, .int .i64 0, .bool false, .bool false, .sl 0 [] .full, .sl 0 [] .full, .int .i64 0, .bool false, .int .u32 0, .int .i64 0] := by kernel_rfl
@[simp] theorem tk65 : tk Tryz.prog 65 = some (true, 15) := by kernel_rfl
@[simp] theorem to65 : tok Tryz.prog 65 = true := by kernel_rfl
@[simp] theorem tf65_0 : tf Tryz.prog 65 0 = some (0, 7, true) := by kernel_rfl
@[simp] theorem tf65_1 : tf Tryz.prog 65 1 = some (7, 1, false) := by kernel_rfl
@[simp] theorem tf65_2 : tf Tryz.prog 65 2 = some (8, 1, false) := by kernel_rfl
@[simp] theorem tf65_3 : tf Tryz.prog 65 3 = some (9, 1, false) := by kernel_rfl
@[simp] theorem tf65_4 : tf Tryz.prog 65 4 = some (10, 1, false) := by kernel_rfl
@[simp] theorem tf65_5 : tf Tryz.prog 65 5 = some (11, 1, false) := by kernel_rfl
@[simp] theorem tf65_6 : tf Tryz.prog 65 6 = some (12, 1, false) := by kernel_rfl
@[simp] theorem tf65_7 : tf Tryz.prog 65 7 = some (13, 1, false) := by kernel_rfl
@[simp] theorem tf65_8 : tf Tryz.prog 65 8 = some (14, 1, false) := by kernel_rfl
@[simp] theorem tb65 : bplan Tryz.prog 65 = some ([(0, 7), (7, 1), (8, 1), (9, 1), (10, 1), (11, 1), (12, 1), (13, 1), (14, 1)], [.int .i64 0, .int .u32 0, .int .i64 0, .int .u32 0, .int .i64 0, .int .i64 0, .int .i64 0, .bool false, .bool false, .sl 0 [] .full, .sl 0 [] .full, .int .i64 0, .bool false, .int .u32 0, .int .i64 0]) := by kernel_rfl
@[simp] theorem tz65 : tz Tryz.prog 65 = some [.int .i64 0, .int .u32 0, .int .i64 0, .int .u32 0, .int .i64 0, .int .i64 0, .int .i64 0, .bool false, .bool false, .sl 0 [] .full, .sl 0 [] .full, .int .i64 0, .bool false, .int .u32 0, .int .i64 0] := by kernel_rfl
@[simp] theorem tk67 : tk Tryz.prog 67 = some (false, 1) := by kernel_rfl
@[simp] theorem to67 : tok Tryz.prog 67 = true := by kernel_rfl
@[simp] theorem tz67 : tz Tryz.prog 67 = some [.nilf] := by kernel_rfl
@[simp] theorem tk69 : tk Tryz.prog 69 = some (false, 1) := by kernel_rfl
@[simp] theorem to69 : tok Tryz.prog 69 = true := by kernel_rfl
@[simp] theorem tz69 : tz Tryz.prog 69 = some [.nilf] := by kernel_rfl
@[simp] theorem tk70 : tk Tryz.prog 70 = some (false, 1) := by kernel_rfl
@[simp] theorem to70 : tok Tryz.prog 70 = true := by kernel_rfl
@[simp] theorem tz70 : tz Tryz.prog 70 = some [.nilf] := by kernel_rfl
@[simp] theorem tk71 : tk Tryz.prog 71 = some (false, 1) := by kernel_rfl
@[simp] theorem to71 : tok Tryz.prog 71 = true := by kernel_rfl
@[simp] theorem tz71 : tz Tryz.prog 71 = some [.nilp] := by kernel_rfl
@[simp] theorem tk72 : tk Tryz.prog 72 = some (false, 1) := by kernel_rfl
@[simp] theorem to72 : tok Tryz.prog 72 = true := by kernel_rfl
@[simp] theorem tz72 : tz Tryz.prog 72 = some [.nilf] := by kernel_rfl
@[simp] theorem tk73 : tk Tryz.prog 73 = some (false, 1) := by kernel_rfl
@[simp] theorem to73 : tok Tryz.prog 73 = true := by kernel_rfl
@[simp] theorem tz73 : tz Tryz.prog 73 = some [.nilf] := by kernel_rfl
@[simp] theorem tk74 : tk Tryz.prog 74 = some (false, 1) := by kernel_rfl
@[simp] theorem to74 : tok Tryz.prog 74 = true := by kernel_rfl
@[simp] theorem tz74 : tz Tryz.prog 74 = some [.nilf] := by kernel_rfl
@[simp] theorem tk75 : tk Tryz.prog 75 = some (false, 1) := by kernel_rfl
@[simp] theorem to75 : tok Tryz.prog 75 = true := by kernel_rfl
@[simp] theorem tz75 : tz Tryz.prog 75 = some [.nilf] := by kernel_rfl
@[simp] theorem tk76 : tk Tryz.prog 76 = some (false, 1) := by kernel_rfl
@[simp] theorem to76 : tok Tryz.prog 76 = true := by kernel_rfl
@[simp] theorem tz76 : tz Tryz.prog 76 = some [.nilf] := by kernel_rfl
@[simp] theorem tk77 : tk Tryz.prog 77 = some (false, 1) := by kernel_rfl
@[simp] theorem to77 : tok Tryz.prog 77 = true := by kernel_rfl
@[simp] theorem tz77 : tz Tryz.prog 77 = some [.nilf] := by kernel_rfl
@[simp] theorem tk78 : tk Tryz.prog 78 = some (false, 1) := by kernel_rfl
@[simp] theorem to78 : tok Tryz.prog 78 = true := by kernel_rfl
@[simp] theorem tz78 : tz Tryz.prog 78 = some [.nilf] := by kernel_rfl
@[simp] theorem tk79 : tk Tryz.prog 79 = some (false, 1) := by kernel_rfl
@[simp] theorem to79 : tok Tryz.prog 79 = true := by kernel_rfl
@[simp] theorem tz79 : tz Tryz.prog 79 = some [.nilf] := by kernel_rfl
@[simp] theorem tk80 : tk Tryz.prog 80 = some (false, 1) := by kernel_rfl
@[simp] theorem to80 : tok Tryz.prog 80 = true := by kernel_rfl
@[simp] theorem tz80 : tz Tryz.prog 80 = some [.nilf] := by kernel_rfl
@[simp] theorem tk81 : tk Tryz.prog 81 = some (false, 1) := by kernel_rfl
@[simp] theorem to81 : tok Tryz.prog 81 = true := by kernel_rfl
@[simp] theorem tz81 : tz Tryz.prog 81 = some [.nilf] := by kernel_rfl
@[simp] theorem tk82 : tk Tryz.prog 82 = some (false, 1) := by kernel_rfl
@[simp] theorem to82 : tok Tryz.prog 82 = true := by kernel_rfl
@[simp] theorem tz82 : tz Tryz.prog 82 = some [.nilf] := by kernel_rfl
@[simp] theorem tk83 : tk Tryz.prog 83 = some (false, 1) := by kernel_rfl
@[simp] theorem to83 : tok Tryz.prog 83 = true := by kernel_rfl
@[simp] theorem tz83 : tz Tryz.prog 83 = some [.nilf] := by kernel_rfl
@[simp] theorem tk84 : tk Tryz.prog 84 = some (false, 1) := by kernel_rfl
@[simp] theorem to84 : tok Tryz.prog 84 = true := by kernel_rfl
@[simp] theorem tz84 : tz Tryz.prog 84 = some [.nilf] := by kernel_rfl
@[simp] theorem tk85 : tk Tryz.prog 85 = some (false, 1) := by kernel_rfl
@[simp] theorem to85 : tok Tryz.prog 85 = true := by kernel_rfl
@[simp] theorem tz85 : tz Tryz.prog 85 = some [.nilf] := by kernel_rfl
@[simp] theorem tk86 : tk Tryz.prog 86 = some (false, 1) := by kernel_rfl
@[simp] theorem to86 : tok Tryz.prog 86 = true := by kernel_rfl
@[simp] theorem tz86 : tz Tryz.prog 86 = some [.nilf] := by kernel_rfl
@[simp] theorem tk87 : tk Tryz.prog 87 = some (false, 1) := by kernel_rfl
@[simp] theorem to87 : tok Tryz.prog 87 = true := by kernel_rfl
@[simp] theorem tz87 : tz Tryz.prog 87 = some [.nilf] := by kernel_rfl
@[simp] theorem tk88 : tk Tryz.prog 88 = some (false, 1) := by kernel_rfl
@[simp] theorem to88 : tok Tryz.prog 88 = true := by kernel_rfl
@[simp] theorem tz88 : tz Tryz.prog 88 = some [.nilf] := by kernel_rfl
@[simp] theorem tk89 : tk Tryz.prog 89 = some (false, 1) := by kernel_rfl
@[simp] theorem to89 : tok Tryz.prog 89 = true := by kernel_rfl
@[simp] theorem tz89 : tz Tryz.prog 89 = some [.nilf] := by kernel_rfl
@[simp] theorem tk90 : tk Tryz.prog 90 = some (false, 1) := by kernel_rfl
@[simp] theorem to90 : tok Tryz.prog 90 = true := by kernel_rfl
@[simp] theorem tz90 : tz Tryz.prog 90 = some [.nilf] := by kernel_rfl
@[simp] theorem tk92 : tk Tryz.prog 92 = some (false, 1) := by kernel_rfl
@[simp] theorem to92 : tok Tryz.prog 92 = true := by kernel_rfl
@[simp] theorem tz92 : tz Tryz.prog 92 = some [.nilf] := by kernel_rfl
@[simp] theorem tk94 : tk Tryz.prog 94 = some (false, 1) := by kernel_rfl
@[simp] theorem to94 : tok Tryz.prog 94 = true := by kernel_rfl
@[simp] theorem tz94 : tz Tryz.prog 94 = some [.nilf] := by kernel_rfl
@[simp] theorem tk96 : tk Tryz.prog 96 = some (false, 1) := by kernel_rfl
@[simp] theorem to96 : tok Tryz.prog 96 = true := by kernel_rfl
@[simp] theorem tz96 : tz Tryz.prog 96 = some [.nilf] := by kernel_rfl
@[simp] theorem tk98 : tk Tryz.prog 98 = some (false, 1) := by kernel_rfl
@[simp] theorem to98 : tok Tryz.prog 98 = true := by kernel_rfl
@[simp] theorem tz98 : tz Tryz.prog 98 = some [.nilf] := by kernel_rfl
@[simp] theorem tk100 : tk Tryz.prog 100 = some (false, 1) := by kernel_rfl
@[simp] theorem to100 : tok Tryz.prog 100 = true := by kernel_rfl
@[simp] theorem tz100 : tz Tryz.prog 100 = some [.nilf] := by kernel_rfl
@[simp] theorem tk101 : tk Tryz.prog 101 = some (false, 1) := by kernel_rfl
@[simp] theorem to101 : tok Tryz.prog 101 = true := by kernel_rfl
@[simp] theorem tz101 : tz Tryz.prog 101 = some [.nilf] := by kernel_rfl
@[simp] theorem tk102 : tk Tryz.prog 102 = some (false, 1) := by kernel_rfl
@[simp] theorem to102 : tok Tryz.prog 102 = true := by kernel_rfl
@[simp] theorem tz102 : tz Tryz.prog 102 = some [.nilf] := by kernel_rfl
@[simp] theorem tk103 : tk Tryz.prog 103 = some (false, 1) := by kernel_rfl
@[simp] theorem to103 : tok Tryz.prog 103 = true := by kernel_rfl
@[simp] theorem tz103 : tz Tryz.prog 103 = some [.nilf] := by kernel_rfl
@[simp] theorem tk104 : tk Tryz.prog 104 = some (false, 1) := by kernel_rfl
@[simp] theorem to104 : tok Tryz.prog 104 = true := by kernel_rfl
@[simp] theorem tz104 : tz Tryz.prog 104 = some [.nilf] := by kernel_rfl
@[simp] theorem tk105 : tk Tryz.prog 105 = some (false, 1) := by kernel_rfl
@[simp] theorem to105 : tok Tryz.prog 105 = true := by kernel_rfl
@[simp] theorem tz105 : tz Tryz.prog 105 = some [.nilf] := by kernel_rfl
@[simp] theorem tk106 : tk Tryz.prog 106 = some (false, 1) := by kernel_rfl
@[simp] theorem to106 : tok Tryz.prog 106 = true := by kernel_rfl
@[simp] theorem tz106 : tz Tryz.prog 106 = some [.nilf] := by kernel_rfl
@[simp] theorem tk107 : tk Tryz.prog 107 = some (false, 1) := by kernel_rfl
@[simp] theorem ti107 : tint Tryz.prog 107 = some .u64 := by kernel_rfl
@[simp] theorem to107 : tok Tryz.prog 107 = true := by kernel_rfl
@[simp] theorem tz107 : tz Tryz.prog 107 = some [.int .u64 0] := by kernel_rfl
@[simp] theorem tk109 : tk Tryz.prog 109 = some (false, 1) := by kernel_rfl
@[simp] theorem to109 : tok Tryz.prog 109 = true := by kernel_rfl
@[simp] theorem tz109 : tz Tryz.prog 109 = some [.nilf] := by kernel_rfl
@[simp] theorem tk110 : tk Tryz.prog 110 = some (false, 1) := by kernel_rfl
@[simp] theorem to110 : tok Tryz.prog 110 = true := by kernel_rfl
@[simp] theorem tz110 : tz Tryz.prog 110 = some [.nilf] := by kernel_rfl
@[simp] theorem tk112 : tk Tryz.prog 112 = some (false, 1) := by kernel_rfl
@[simp] theorem to112 : tok Tryz.prog 112 = true := by kernel_rfl
@[simp] theorem tz112 : tz Tryz.prog 112 = some [.nilf] := by kernel_rfl
@[simp] theorem tk113 : tk Tryz.prog 113 = some (false, 1) := by kernel_rfl
@[simp] theorem to113 : tok Tryz.prog 113 = true := by kernel_rfl
@[simp] theorem tz113 : tz Tryz.prog 113 = some [.nilf] := by kernel_rfl
@[simp] theorem tk114 : tk Tryz.prog 114 = some (false, 1) := by kernel_rfl
@[simp] theorem to114 : tok Tryz.prog 114 = true := by kernel_rfl
@[simp] theorem tz114 : tz Tryz.prog 114 = some [.nilf] := by kernel_rfl
@[simp] theorem tk115 : tk Tryz.prog 115 = some (false, 1) := by kernel_rfl
@[simp] theorem to115 : tok Tryz.prog 115 = true := by kernel_rfl
@[simp] theorem tz115 : tz Tryz.prog 115 = some [.nilf] := by kernel_rfl
@[simp] theorem tk116 : tk Tryz.prog 116 = some (true, 4) := by kernel_rfl
@[simp] theorem to116 : tok Tryz.prog 116 = true := by kernel_rfl
@[simp] theorem tf116_0 : tf Tryz.prog 116 0 = some (0, 1, false) := by kernel_rfl
@[simp] theorem tf116_1 : tf Tryz.prog 116 1 = some (1, 1, false) := by kernel_rfl
@[simp] theorem tf116_2 : tf Tryz.prog 116 2 = some (2, 1, false) := by kernel_rfl
@[simp] theorem tf116_3 : tf Tryz.prog 116 3 = some (3, 1, false) := by kernel_rfl
@[simp] theorem tq116 : feq Tryz.prog 116 = some [true, true, true, true] := by kernel_rfl
@[simp] theorem tb116 : bplan Tryz.prog 116 = some ([(0, 1), (1, 1), (2, 1), (3, 1)], [.int .i64 0, .int .u32 0, .int .u32 0, .int .i64 0]) := by kernel_rfl
@[simp] theorem tz116 : tz Tryz.prog 116 = some [.int .i64 0, .int .u32 0, .int .u32 0, .int .i64 0] := by kernel_rfl
@[simp] theorem tk117 : tk Tryz.prog 117 = some (true, 4) := by kernel_rfl
@[simp] theorem to117 : tok Tryz.prog 117 = true := by kernel_rfl
@[simp] theorem tf117_0 : tf Tryz.prog 117 0 = some (0, 1, false) := by kernel_rfl
@[simp] theorem tf117_1 : tf Tryz.prog 117 1 = some (1, 1, false) := by kernel_rfl
@[simp] theorem tf117_2 : tf Tryz.prog 117 2 = some (2, 1, false) := by kernel_rfl
@[simp] theorem tf117_3 : tf Tryz.prog 117 3 = some (3, 1, false) := by kernel_rfl
@[simp] theorem tq117 : feq Tryz.prog 117 = some [true, true, true, true] := by kernel_rfl
@[simp] theorem tb117 : bplan Tryz.prog 117 = some ([(0, 1), (1, 1), (2, 1), (3, 1)], [.int .i64 0, .int .u32 0, .int .u32 0, .int .i64 0]) := by kernel_rfl
@[simp] theorem tz117 : tz Tryz.prog 117 = some [.int .i64 0, .int .u32 0, .int .u32 0, .int .i64 0] := by kernel_rfl
@[simp] theorem tk118 : tk Tryz.prog 118 = some (false, 1) := by kernel_rfl
@[simp] theorem to118 : tok Tryz.prog 118 = true := by kernel_rfl
@[simp] theorem tz118 : tz Tryz.prog 118 = some [.nilf] := by kernel_rfl
@[simp] theorem tk119 : tk Tryz.prog 119 = some (false, 1) := by kernel_rfl
@[simp] theorem to119 : tok Tryz.prog 119 = true := by kernel_rfl
@[simp] theorem tz119 : tz Tryz.prog 119 = some [.nilf] := by kernel_rfl
@[simp] theorem tk120 : tk Tryz.prog 120 = some (false, 1) := by kernel_rfl
@[simp] theorem to120 : tok Tryz.prog 120 = true := by kernel_rfl
@[simp] theorem tz120 : tz Tryz.prog 120 = some [.nilf] := by kernel_rfl
@[simp] theorem tk121 : tk Tryz.prog 121 = some (false, 1) := by kernel_rfl
@[simp] theorem to121 : tok Tryz.prog 121 = true := by kernel_rfl
@[simp] theorem tz121 : tz Tryz.prog 121 = some [.nilf] := by kernel_rfl
@[simp] theorem tk122 : tk Tryz.prog 122 = some (false, 1) := by kernel_rfl
@[simp] theorem to122 : tok Tryz.prog 122 = true := by kernel_rfl
@[simp] theorem tz122 : tz Tryz.prog 122 = some [.nilf] := by kernel_rfl
@[simp] theorem tk123 : tk Tryz.prog 123 = some (false, 1) := by kernel_rfl
@[simp] theorem to123 : tok Tryz.prog 123 = true := by kernel_rfl
@[simp] theorem tz123 : tz Tryz.prog 123 = some [.nilp] := by kernel_rfl
@[simp] theorem tk124 : tk Tryz.prog 124 = some (true, 3) := by kernel_rfl
@[simp] theorem to124 : tok Tryz.prog 124 = true := by kernel_rfl
@[simp] theorem tf124_0 : tf Tryz.prog 124 0 = some (0, 1, false) := by kernel_rfl
@[simp] theorem tf124_1 : tf Tryz.prog 124 1 = some (1, 1, false) := by kernel_rfl
@[simp] theorem tf124_2 : tf Tryz.prog 124 2 = some (2, 1, false) := by kernel_rfl
@[simp] theorem tb124 : bplan Tryz.prog 124 = some ([(0, 1), (1, 1), (2, 1)], [.sl 0 [] .full, .int .i64 0, .bool false]) := by kernel_rfl
@[simp] theorem tz124 : tz Tryz.prog 124 = some [.sl 0 [] .full, .int .i64 0, .bool false] := by kernel_rfl
@[simp] theorem tk125 : tk Tryz.prog 125 = some (true, 3) := by kernel_rfl
@[simp] theorem to125 : tok Tryz.prog 125 = true := by kernel_rfl
@[simp] theorem tf125_0 : tf Tryz.prog 125 0 = some (0, 1, false) := by kernel_rfl
@[simp] theorem tf125_1 : tf Tryz.prog 125 1 = some (1, 1, false) := by kernel_rfl
@[simp] theorem tf125_2 : tf Tryz.prog 125 2 = some (2, 1, false) := by kernel_rfl
@[simp] theorem tb125 : bplan Tryz.prog 125 = some ([(0, 1), (1, 1), (2, 1)], [.sl 0 [] .full, .int .i64 0, .bool false]) := by kernel_rfl
@[simp] theorem tz125 : tz Tryz.prog 125 = some [.sl 0 [] .full, .int .i64 0, .bool false] := by kernel_rfl
@[simp] theorem tk126 : tk Tryz.prog 126 = some (false, 1) := by kernel_rfl
@[simp] theorem to126 : tok Tryz.prog 126 = true := by kernel_rfl
@[simp] theorem tz126 : tz Tryz.prog 126 = some [.nilf] := by kernel_rfl
@[simp] theorem tk127 : tk Tryz.prog 127 = some (false, 1) := by kernel_rfl
@[simp] theorem to127 : tok Tryz.prog 127 = true := by kernel_rfl
@[simp] theorem tz127 : tz Tryz.prog 127 = some [.nilf] := by kernel_rfl
@[simp] theorem tk128 : tk Tryz.prog 128 = some (false, 1) := by kernel_rfl
@[simp] theorem to128 : tok Tryz.prog 128 = true := by kernel_rfl
@[simp] theorem tz128 : tz Tryz.prog 128 = some [.nilp] := by kernel_rfl
@[simp] theorem tk129 : tk Tryz.prog 129 = some (false, 1) := by kernel_rfl
@[simp] theorem to129 : tok Tryz.prog 129 = true := by kernel_rfl
@[simp] theorem tz129 : tz Tryz.prog 129 = some [.nilf] := by kernel_rfl
@[simp] theorem tk130 : tk Tryz.prog 130 = some (false, 1) := by kernel_rfl
@[simp] theorem to130 : tok Tryz.prog 130 = true := by kernel_rfl
@[simp] theorem tz130 : tz Tryz.prog 130 = some [.nilf] := by kernel_rfl
@[simp] theorem tk131 : tk Tryz.prog 131 = some (false, 1) := by kernel_rfl
@[simp] theorem to131 : tok Tryz.prog 131 = true := by kernel_rfl
@[simp] theorem tz131 : tz Tryz.prog 131 = some [.nilf] := by kernel_rfl
@[simp] theorem tk132 : tk Tryz.prog 132 = some (false, 1) := by kernel_rfl
@[simp] theorem to132 : tok Tryz.prog 132 = true := by kernel_rfl
@[simp] theorem tz132 : tz Tryz.prog 132 = some [.nilf] := by kernel_rfl
@[simp] theorem tk133 : tk Tryz.prog 133 = some (false, 1) := by kernel_rfl
@[simp] theorem to133 : tok Tryz.prog 133 = true := by kernel_rfl
@[simp] theorem tz133 : tz Tryz.prog 133 = some [.nilf] := by kernel_rfl
@[simp] theorem tk134 : tk Tryz.prog 134 = some (false, 1) := by kernel_rfl
@[simp] theorem to134 : tok Tryz.prog 134 = true := by kernel_rfl
@[simp] theorem tz134 : tz Tryz.prog 134 = some [.nilf] := by kernel_rfl
@[simp] theorem tk136 : tk Tryz.prog 136 = some (false, 1) := by kernel_rfl
@[simp] theorem to136 : tok Tryz.prog 136 = true := by kernel_rfl
@[simp] theorem tz136 : tz Tryz.prog 136 = some [.nilf] := by kernel_rfl
@[simp] theorem tk137 : tk Tryz.prog 137 = some (false, 1) := by kernel_rfl
@[simp] theorem to137 : tok Tryz.prog 137 = true := by kernel_rfl
@[simp] theorem tz137 : tz Tryz.prog 137 = some [.nilf] := by kernel_rfl
@[simp] theorem tk138 : tk Tryz.prog 138 = some (false, 1) := by kernel_rfl
@[simp] theorem to138 : tok Tryz.prog 138 = true := by kernel_rfl
@[simp] theorem te138 : te Tryz.prog 138 = some (1, none) := by kernel_rfl
@[simp] theorem ta138 : tap Tryz.prog 138 = some (1, 24) := by kernel_rfl
@[simp] theorem tcl138 : tcl Tryz.prog 138 = some 1 := by kernel_rfl
@[simp] theorem ts138 : tze Tryz.prog 138 = some [.sl 0 [] .full] := by kernel_rfl
@[simp] theorem tz138 : tz Tryz.prog 138 = some [.sl 0 [] .full] := by kernel_rfl
@[simp] theorem tk139 : tk Tryz.prog 139 = some (false, 1) := by kernel_rfl
@[simp] theorem to139 : tok Tryz.prog 139 = true := by kernel_rfl
@[simp] theorem tz139 : tz Tryz.prog 139 = some [.nilf] := by kernel_rfl
@[simp] theorem tk140 : tk Tryz.prog 140 = some (false, 1) := by kernel_rfl
@[simp] theorem to140 : tok Tryz.prog 140 = true := by kernel_rfl
@[simp] theorem tz140 : tz Tryz.prog 140 = some [.nilf] := by kernel_rfl
@[simp] theorem tk141 : tk Tryz.prog 141 = some (true, 2) := by kernel_rfl
@[simp] theorem to141 : tok Tryz.prog 141 = true := by kernel_rfl
@[simp] theorem tf141_0 : tf Tryz.prog 141 0 = some (0, 1, false) := by kernel_rfl
@[simp] theorem tf141_1 : tf Tryz.prog 141 1 = some (1, 1, false) := by kernel_rfl
@[simp] theorem tq141 : feq Tryz.prog 141 = some [true, true] := by kernel_rfl
@[simp] theorem tb141 : bplan Tryz.prog 141 = some ([(0, 1), (1, 1)], [.int .u32 0, .int .i64 0]) := by kernel_rfl
@[simp] theorem tz141 : tz Tryz.prog 141 = some [.int .u32 0, .int .i64 0] := by kernel_rfl
@[simp] theorem tk142 : tk Tryz.prog 142 = some (true, 2) := by kernel_rfl
@[simp] theorem to142 : tok Tryz.prog 142 = true := by kernel_rfl
@[simp] theorem tf142_0 : tf Tryz.prog 142 0 = some (0, 1, false) := by kernel_rfl
@[simp] theorem tf142_1 : tf Tryz.prog 142 1 = some (1, 1, false) := by kernel_rfl
@[simp] theorem tq142 : feq Tryz.prog 142 = some [true, true] := by kernel_rfl
@[simp] theorem tb142 : bplan Tryz.prog 142 = some ([(0, 1), (1, 1)], [.int .u32 0, .int .i64 0]) := by kernel_rfl
@[simp] theorem tz142 : tz Tryz.prog 142 = some [.int .u32 0, .int .i64 0] := by kernel_rfl
@[simp] theorem tk143 : tk Tryz.prog 143 = some (false, 1) := by kernel_rfl
@[simp] theorem to143 : tok Tryz.prog 143 = true := by kernel_rfl
@[simp] theorem tz143 : tz Tryz.prog 143 = some [.nilf] := by kernel_rfl
@[simp] theorem tk144 : tk Tryz.prog 144 = some (false, 1) := by kernel_rfl
@[simp] theorem to144 : tok Tryz.prog 144 = true := by kernel_rfl
@[simp] theorem tz144 : tz Tryz.prog 144 = some [.nilf] := by kernel_rfl
@[simp] theorem tk146 : tk Tryz.prog 146 = some (false, 1) := by kernel_rfl
@[simp] theorem to146 : tok Tryz.prog 146 = true := by kernel_rfl
@[simp] theorem tz146 : tz Tryz.prog 146 = some [.nilf] := by kernel_rfl
@[simp] theorem tk147 : tk Tryz.prog 147 = some (false, 1) := by kernel_rfl
@[simp] theorem to147 : tok Tryz.prog 147 = true := by kernel_rfl
@[simp] theorem te147 : te Tryz.prog 147 = some (1, none) := by kernel_rfl
@[simp] theorem ta147 : tap Tryz.prog 147 = some (1, 8) := by kernel_rfl
@[simp] theorem tcl147 : tcl Tryz.prog 147 = some 1 := by kernel_rfl
@[simp] theorem ts147 : tze Tryz.prog 147 = some [.int .i64 0] := by kernel_rfl
@[simp] theorem tz147 : tz Tryz.prog 147 = some [.sl 0 [] .full] := by kernel_rfl
@[simp] theorem tk148 : tk Tryz.prog 148 = some (false, 1) := by kernel_rfl
@[simp] theorem to148 : tok Tryz.prog 148 = true := by kernel_rfl
@[simp] theorem tz148 : tz Tryz.prog 148 = some [.nilf] := by kernel_rfl
@[simp] theorem tk149 : tk Tryz.prog 149 = some (false, 1) := by kernel_rfl
@[simp] theorem to149 : tok Tryz.prog 149 = true := by kernel_rfl
@[simp] theorem tz149 : tz Tryz.prog 149 = some [.nilf] := by kernel_rfl
@[simp] theorem tk150 : tk Tryz.prog 150 = some (false, 1) := by kernel_rfl
@[simp] theorem to150 : tok Tryz.prog 150 = true := by kernel_rfl
@[simp] theorem tz150 : tz Tryz.prog 150 = some [.nilf] := by kernel_rfl
@[simp] theorem tk151 : tk Tryz.prog 151 = some (false, 1) := by kernel_rfl
@[simp] theorem to151 : tok Tryz.prog 151 = true := by kernel_rfl
@[simp] theorem tz151 : tz Tryz.prog 151 = some [.nilf] := by kernel_rfl
@[simp] theorem tk152 : tk Tryz.prog 152 = some (false, 1) := by kernel_rfl
@[simp] theorem to152 : tok Tryz.prog 152 = true := by kernel_rfl
@[simp] theorem tz152 : tz Tryz.prog 152 = some [.nilf] := by kernel_rfl
@[simp] theorem tk153 : tk Tryz.prog 153 = some (false, 1) := by kernel_rfl
@[simp] theorem to153 : tok Tryz.prog 153 = true := by kernel_rfl
@[simp] theorem tz153 : tz Tryz.prog 153 = some [.nilf] := by kernel_rfl
@[simp] theorem tk154 : tk Tryz.prog 154 = some (false, 1) := by kernel_rfl
@[simp] theorem to154 : tok Tryz.prog 154 = true := by kernel_rfl
@[simp] theorem tz154 : tz Tryz.prog 154 = some [.nilf] := by kernel_rfl
@[simp] theorem tk155 : tk Tryz.prog 155 = some (true, 2) := by kernel_rfl
@[simp] theorem to155 : tok Tryz.prog 155 = true := by kernel_rfl
@[simp] theorem te155 : te Tryz.prog 155 = some (1, some 2) := by kernel_rfl
@[simp] theorem tx155 : tx Tryz.prog 155 = some 2 := by kernel_rfl
@[simp] theorem tb155 : bplan Tryz.prog 155 = some ([(0, 1), (1, 1)], [.int .i64 0, .int .i64 0]) := by kernel_rfl
@[simp] theorem tz155 : tz Tryz.prog 155 = some [.int .i64 0, .int .i64 0] := by kernel_rfl
@[simp] theorem tk156 : tk Tryz.prog 156 = some (false, 1) := by kernel_rfl
@[simp] theorem to156 : tok Tryz.prog 156 = true := by kernel_rfl
@[simp] theorem tz156 : tz Tryz.prog 156 = some [.nilf] := by kernel_rfl
@[simp] theorem tk157 : tk Tryz.prog 157 = some (false, 1) := by kernel_rfl
@[simp] theorem to157 : tok Tryz.prog 157 = true := by kernel_rfl
@[simp] theorem tz157 : tz Tryz.prog 157 = some [.nilf] := by kernel_rfl
@[simp] theorem tk159 : tk Tryz.prog 159 = some (false, 1) := by kernel_rfl
@[simp] theorem to159 : tok Tryz.prog 159 = true := by kernel_rfl
@[simp] theorem tz159 : tz Tryz.prog 159 = some [.nilf] := by kernel_rfl
@[simp] theorem tk160 : tk Tryz.prog 160 = some (false, 1) := by kernel_rfl
@[simp] theorem to160 : tok Tryz.prog 160 = true := by kernel_rfl
@[simp] theorem tz160 : tz Tryz.prog 160 = some [.nilf] := by kernel_rfl
@[simp] theorem tk161 : tk Tryz.prog 161 = some (false, 1) := by kernel_rfl
@[simp] theorem to161 : tok Tryz.prog 161 = true := by kernel_rfl
@[simp] theorem tz161 : tz Tryz.prog 161 = some [.nilf] := by kernel_rfl
@[simp] theorem tk162 : tk Tryz.prog 162 = some (false, 1) := by kernel_rfl
@[simp] theorem to162 : tok Tryz.prog 162 = true := by kernel_rfl
@[simp] theorem tz162 : tz Tryz.prog 162 = some [.nilf] := by kernel_rfl
@[simp] theorem tk163 : tk Tryz.prog 163 = some (false, 1) := by kernel_rfl
@[simp] theorem to163 : tok Tryz.prog 163 = true := by kernel_rfl
@[simp] theorem tz163 : tz Tryz.prog 163 = some [.nilf] := by kernel_rfl
@[simp] theorem tk164 : tk Tryz.prog 164 = some (false, 1) := by kernel_rfl
@[simp] theorem to164 : tok Tryz.prog 164 = true := by kernel_rfl
@[simp] theorem tz164 : tz Tryz.prog 164 = some [.nilf] := by kernel_rfl
@[simp] theorem tk170 : tk Tryz.prog 170 = some (false, 1) := by kernel_rfl
@[simp] theorem to170 : tok Tryz.prog 170 = true := by kernel_rfl
@[simp] theorem tz170 : tz Tryz.prog 170 = some [.nilf] := by kernel_rfl
@[simp] theorem tk173 : tk Tryz.prog 173 = some (false, 1) := by kernel_rfl
@[simp] theorem to173 : tok Tryz.prog 173 = true := by kernel_rfl
@[simp] theorem tz173 : tz Tryz.prog 173 = some [.nilf] := by kernel_rfl
@[simp] theorem tk174 : tk Tryz.prog 174 = some (false, 1) := by kernel_rfl
@[simp] theorem to174 : tok Tryz.prog 174 = true := by kernel_rfl
@[simp] theorem tz174 : tz Tryz.prog 174 = some [.nilp] := by kernel_rfl
end Go.Proofs.YtmgkemffbmfmpaaGreat
