/- Closed facts on the types of the program. Printed by facts.py. -/
import Derived.Test.YtmgkemffbmfmpaaAmQ
import Derived.Test.YtmgkemffbmfmpaaProg
set_option linter.unusedSimpArgs false
set_option linter.unusedVariables false
namespace Go.Proofs.Ytmgkemffbmfmpaa
open Go Go.Am
theorem mixed : Try.prog.follows .mixedOrders = true := by kernel_rfl
@[simp] theorem tk2 : tk Try.prog 2 = some (false, 1) := by kernel_rfl
@[simp] theorem ti2 : tint Try.prog 2 = some .i64 := by kernel_rfl
@[simp] theorem to2 : tok Try.prog 2 = true := by kernel_rfl
@[simp] theorem tz2 : tz Try.prog 2 = some [.int .i64 0] := by kernel_rfl
@[simp] theorem tk3 : tk Try.prog 3 = some (false, 1) := by kernel_rfl
@[simp] theorem ti3 : tint Try.prog 3 = some .i64 := by kernel_rfl
@[simp] theorem to3 : tok Try.prog 3 = true := by kernel_rfl
@[simp] theorem tz3 : tz Try.prog 3 = some [.int .i64 0] := by kernel_rfl
@[simp] theorem tk4 : tk Try.prog 4 = some (false, 1) := by kernel_rfl
@[simp] theorem to4 : tok Try.prog 4 = true := by kernel_rfl
@[simp] theorem tz4 : tz Try.prog 4 = some [.bool false] := by kernel_rfl
@[simp] theorem tk5 : tk Try.prog 5 = some (false, 1) := by kernel_rfl
@[simp] theorem ti5 : tint Try.prog 5 = some .u8 := by kernel_rfl
@[simp] theorem to5 : tok Try.prog 5 = true := by kernel_rfl
@[simp] theorem tz5 : tz Try.prog 5 = some [.int .u8 0] := by kernel_rfl
@[simp] theorem tk12 : tk Try.prog 12 = some (false, 1) := by kernel_rfl
@[simp] theorem ti12 : tint Try.prog 12 = some .u64 := by kernel_rfl
@[simp] theorem to12 : tok Try.prog 12 = true := by kernel_rfl
@[simp] theorem tz12 : tz Try.prog 12 = some [.int .u64 0] := by kernel_rfl
@[simp] theorem tk13 : tk Try.prog 13 = some (true, 2) := by kernel_rfl
@[simp] theorem to13 : tok Try.prog 13 = true := by kernel_rfl
@[simp] theorem tf13_0 : tf Try.prog 13 0 = some (0, 1, false) := by kernel_rfl
@[simp] theorem tf13_1 : tf Try.prog 13 1 = some (1, 1, false) := by kernel_rfl
@[simp] theorem tb13 : bplan Try.prog 13 = some ([(0, 1), (1, 1)], [.undef, .int .u64 0]) := by kernel_rfl
@[simp] theorem tz13 : tz Try.prog 13 = some [.undef, .int .u64 0] := by kernel_rfl
@[simp] theorem tk21 : tk Try.prog 21 = some (false, 1) := by kernel_rfl
@[simp] theorem ti21 : tint Try.prog 21 = some .i32 := by kernel_rfl
@[simp] theorem to21 : tok Try.prog 21 = true := by kernel_rfl
@[simp] theorem tz21 : tz Try.prog 21 = some [.int .i32 0] := by kernel_rfl
@[simp] theorem tk22 : tk Try.prog 22 = some (false, 1) := by kernel_rfl
@[simp] theorem ti22 : tint Try.prog 22 = some .u32 := by kernel_rfl
@[simp] theorem to22 : tok Try.prog 22 = true := by kernel_rfl
@[simp] theorem tz22 : tz Try.prog 22 = some [.int .u32 0] := by kernel_rfl
@[simp] theorem tk23 : tk Try.prog 23 = some (false, 1) := by kernel_rfl
@[simp] theorem ti23 : tint Try.prog 23 = some .u32 := by kernel_rfl
@[simp] theorem to23 : tok Try.prog 23 = true := by kernel_rfl
@[simp] theorem tz23 : tz Try.prog 23 = some [.int .u32 0] := by kernel_rfl
@[simp] theorem tk24 : tk Try.prog 24 = some (false, 1) := by kernel_rfl
@[simp] theorem to24 : tok Try.prog 24 = true := by kernel_rfl
@[simp] theorem te24 : te Try.prog 24 = some (1, none) := by kernel_rfl
@[simp] theorem ta24 : tap Try.prog 24 = some (1, 4) := by kernel_rfl
@[simp] theorem tcl24 : tcl Try.prog 24 = some 1 := by kernel_rfl
@[simp] theorem ts24 : tze Try.prog 24 = some [.int .u32 0] := by kernel_rfl
@[simp] theorem tz24 : tz Try.prog 24 = some [.sl 0 [] .full] := by kernel_rfl
@[simp] theorem tk25 : tk Try.prog 25 = some (true, 7) := by kernel_rfl
@[simp] theorem to25 : tok Try.prog 25 = true := by kernel_rfl
@[simp] theorem tf25_0 : tf Try.prog 25 0 = some (0, 1, false) := by kernel_rfl
@[simp] theorem tf25_1 : tf Try.prog 25 1 = some (1, 1, false) := by kernel_rfl
@[simp] theorem tf25_2 : tf Try.prog 25 2 = some (2, 1, false) := by kernel_rfl
@[simp] theorem tf25_3 : tf Try.prog 25 3 = some (3, 1, false) := by kernel_rfl
@[simp] theorem tf25_4 : tf Try.prog 25 4 = some (4, 1, false) := by kernel_rfl
@[simp] theorem tf25_5 : tf Try.prog 25 5 = some (5, 1, false) := by kernel_rfl
@[simp] theorem tf25_6 : tf Try.prog 25 6 = some (6, 1, false) := by kernel_rfl
@[simp] theorem tb25 : bplan Try.prog 25 = some ([(0, 1), (1, 1), (2, 1), (3, 1), (4, 1), (5, 1), (6, 1)], [.int .i64 0, .int .i64 0, .int .i64 0, .int .i64 0, .int .u32 0, .int .u32 0, .sl 0 [] .full]) := by kernel_rfl
@[simp] theorem tz25 : tz Try.prog 25 = some [.int .i64 0, .int .i64 0, .int .i64 0, .int .i64 0, .int .u32 0, .int .u32 0, .sl 0 [] .full] := by kernel_rfl
@[simp] theorem tk26 : tk Try.prog 26 = some (true, 7) := by kernel_rfl
@[simp] theorem to26 : tok Try.prog 26 = true := by kernel_rfl
@[simp] theorem tf26_0 : tf Try.prog 26 0 = some (0, 1, false) := by kernel_rfl
@[simp] theorem tf26_1 : tf Try.prog 26 1 = some (1, 1, false) := by kernel_rfl
@[simp] theorem tf26_2 : tf Try.prog 26 2 = some (2, 1, false) := by kernel_rfl
@[simp] theorem tf26_3 : tf Try.prog 26 3 = some (3, 1, false) := by kernel_rfl
@[simp] theorem tf26_4 : tf Try.prog 26 4 = some (4, 1, false) := by kernel_rfl
@[simp] theorem tf26_5 : tf Try.prog 26 5 = some (5, 1, false) := by kernel_rfl
@[simp] theorem tf26_6 : tf Try.prog 26 6 = some (6, 1, false) := by kernel_rfl
@[simp] theorem tb26 : bplan Try.prog 26 = some ([(0, 1), (1, 1), (2, 1), (3, 1), (4, 1), (5, 1), (6, 1)], [.int .i64 0, .int .i64 0, .int .i64 0, .int .i64 0, .int .u32 0, .int .u32 0, .sl 0 [] .full]) := by kernel_rfl
@[simp] theorem tz26 : tz Try.prog 26 = some [.int .i64 0, .int .i64 0, .int .i64 0, .int .i64 0, .int .u32 0, .int .u32 0, .sl 0 [] .full] := by kernel_rfl
@[simp] theorem tk27 : tk Try.prog 27 = some (false, 1) := by kernel_rfl
@[simp] theorem to27 : tok Try.prog 27 = true := by kernel_rfl
@[simp] theorem te27 : te Try.prog 27 = some (7, none) := by kernel_rfl
@[simp] theorem ta27 : tap Try.prog 27 = some (7, 56) := by kernel_rfl
@[simp] theorem tcl27 : tcl Try.prog 27 = some 7 := by kernel_rfl
@[simp] theorem ts27 : tze Try.prog 27 = some [.int .i64 0, .int .u32 0, .int .i64 0, .int .u32 0, .int .i64 0, .int .i64 0, .int .i64 0] := by kernel_rfl
@[simp] theorem tz27 : tz Try.prog 27 = some [.sl 0 [] .full] := by kernel_rfl
@[simp] theorem tk28 : tk Try.prog 28 = some (false, 1) := by kernel_rfl
@[simp] theorem to28 : tok Try.prog 28 = true := by kernel_rfl
@[simp] theorem te28 : te Try.prog 28 = some (4, none) := by kernel_rfl
@[simp] theorem ta28 : tap Try.prog 28 = some (4, 32) := by kernel_rfl
@[simp] theorem tcl28 : tcl Try.prog 28 = some 4 := by kernel_rfl
@[simp] theorem ts28 : tze Try.prog 28 = some [.int .i64 0, .int .u32 0, .int .i64 0, .int .u32 0] := by kernel_rfl
@[simp] theorem tz28 : tz Try.prog 28 = some [.sl 0 [] .full] := by kernel_rfl
@[simp] theorem tk29 : tk Try.prog 29 = some (false, 1) := by kernel_rfl
@[simp] theorem to29 : tok Try.prog 29 = true := by kernel_rfl
@[simp] theorem te29 : te Try.prog 29 = some (15, none) := by kernel_rfl
@[simp] theorem ta29 : tap Try.prog 29 = some (15, 136) := by kernel_rfl
@[simp] theorem tcl29 : tcl Try.prog 29 = some 15 := by kernel_rfl
@[simp] theorem ts29 : tze Try.prog 29 = some [.int .i64 0, .int .u32 0, .int .i64 0, .int .u32 0, .int .i64 0, .int .i64 0, .int .i64 0, .bool false, .bool false, .sl 0 [] .full, .sl 0 [] .full, .int .i64 0, .bool false, .int .u32 0, .int .i64 0] := by kernel_rfl
@[simp] theorem tz29 : tz Try.prog 29 = some [.sl 0 [] .full] := by kernel_rfl
@[simp] theorem tk30 : tk Try.prog 30 = some (true, 18) := by kernel_rfl
@[simp] theorem to30 : tok Try.prog 30 = true := by kernel_rfl
@[simp] theorem tf30_0 : tf Try.prog 30 0 = some (0, 1, false) := by kernel_rfl
@[simp] theorem tf30_1 : tf Try.prog 30 1 = some (1, 1, false) := by kernel_rfl
@[simp] theorem tf30_2 : tf Try.prog 30 2 = some (2, 1, false) := by kernel_rfl
@[simp] theorem tf30_3 : tf Try.prog 30 3 = some (3, 1, false) := by kernel_rfl
@[simp] theorem tf30_4 : tf Try.prog 30 4 = some (4, 7, true) := by kernel_rfl
@[simp] theorem tf30_5 : tf Try.prog 30 5 = some (11, 1, false) := by kernel_rfl
@[simp] theorem tf30_6 : tf Try.prog 30 6 = some (12, 1, false) := by kernel_rfl
@[simp] theorem tf30_7 : tf Try.prog 30 7 = some (13, 1, false) := by kernel_rfl
@[simp] theorem tf30_8 : tf Try.prog 30 8 = some (14, 1, false) := by kernel_rfl
@[simp] theorem tf30_9 : tf Try.prog 30 9 = some (15, 1, false) := by kernel_rfl
@[simp] theorem tf30_10 : tf Try.prog 30 10 = some (16, 1, false) := by kernel_rfl
@[simp] theorem tf30_11 : tf Try.prog 30 11 = some (17, 1, false) := by kernel_rfl
@[simp] theorem tb30 : bplan Try.prog 30 = some ([(0, 1), (1, 1), (2, 1), (3, 1), (4, 7), (11, 1), (12, 1), (13, 1), (14, 1), (15, 1), (16, 1), (17, 1)], [.int .i64 0, .int .u32 0, .int .u32 0, .int .u32 0, .int .i64 0, .int .i64 0, .int .i64 0, .int .i64 0, .int .u32 0, .int .u32 0, .sl 0 [] .full, .int .i64 0, .bool false, .bool false, .bool false, .sl 0 [] .full, .sl 0 [] .full, .sl 0 [] .full]) := by kernel_rfl
@[simp] theorem tz30 : tz Try.prog 30 = some [.int .i64 0, .int .u32 0, .int .u32 0, .int .u32 0, .int .i64 0, .int .i64 0, .int .i64 0, .int .i64 0, .int .u32 0, .int .u32 0, .sl 0 [] .full, .int .i64 0, .bool false, .bool false, .bool false, .sl 0 [] .full, .sl 0 [] .full, .sl 0 [] .full] := by kernel_rfl
@[simp] theorem tk31 : tk Try.prog 31 = some (true, 18) := by kernel_rfl
@[simp] theorem to31 : tok Try.prog 31 = true := by kernel_rfl
@[simp] theorem tf31_0 : tf Try.prog 31 0 = some (0, 1, false) := by kernel_rfl
@[simp] theorem tf31_1 : tf Try.prog 31 1 = some (1, 1, false) := by kernel_rfl
@[simp] theorem tf31_2 : tf Try.prog 31 2 = some (2, 1, false) := by kernel_rfl
@[simp] theorem tf31_3 : tf Try.prog 31 3 = some (3, 1, false) := by kernel_rfl
@[simp] theorem tf31_4 : tf Try.prog 31 4 = some (4, 7, true) := by kernel_rfl
@[simp] theorem tf31_5 : tf Try.prog 31 5 = some (11, 1, false) := by kernel_rfl
@[simp] theorem tf31_6 : tf Try.prog 31 6 = some (12, 1, false) := by kernel_rfl
@[simp] theorem tf31_7 : tf Try.prog 31 7 = some (13, 1, false) := by kernel_rfl
@[simp] theorem tf31_8 : tf Try.prog 31 8 = some (14, 1, false) := by kernel_rfl
@[simp] theorem tf31_9 : tf Try.prog 31 9 = some (15, 1, false) := by kernel_rfl
@[simp] theorem tf31_10 : tf Try.prog 31 10 = some (16, 1, false) := by kernel_rfl
@[simp] theorem tf31_11 : tf Try.prog 31 11 = some (17, 1, false) := by kernel_rfl
@[simp] theorem tb31 : bplan Try.prog 31 = some ([(0, 1), (1, 1), (2, 1), (3, 1), (4, 7), (11, 1), (12, 1), (13, 1), (14, 1), (15, 1), (16, 1), (17, 1)], [.int .i64 0, .int .u32 0, .int .u32 0, .int .u32 0, .int .i64 0, .int .i64 0, .int .i64 0, .int .i64 0, .int .u32 0, .int .u32 0, .sl 0 [] .full, .int .i64 0, .bool false, .bool false, .bool false, .sl 0 [] .full, .sl 0 [] .full, .sl 0 [] .full]) := by kernel_rfl
@[simp] theorem tz31 : tz Try.prog 31 = some [.int .i64 0, .int .u32 0, .int .u32 0, .int .u32 0, .int .i64 0, .int .i64 0, .int .i64 0, .int .i64 0, .int .u32 0, .int .u32 0, .sl 0 [] .full, .int .i64 0, .bool false, .bool false, .bool false, .sl 0 [] .full, .sl 0 [] .full, .sl 0 [] .full] := by kernel_rfl
@[simp] theorem tk32 : tk Try.prog 32 = some (false, 1) := by kernel_rfl
@[simp] theorem ti32 : tint Try.prog 32 = some .i64 := by kernel_rfl
@[simp] theorem to32 : tok Try.prog 32 = true := by kernel_rfl
@[simp] theorem tz32 : tz Try.prog 32 = some [.int .i64 0] := by kernel_rfl
@[simp] theorem tk36 : tk Try.prog 36 = some (false, 1) := by kernel_rfl
@[simp] theorem to36 : tok Try.prog 36 = true := by kernel_rfl
@[simp] theorem te36 : te Try.prog 36 = some (1, none) := by kernel_rfl
@[simp] theorem ta36 : tap Try.prog 36 = some (1, 1) := by kernel_rfl
@[simp] theorem tcl36 : tcl Try.prog 36 = some 1 := by kernel_rfl
@[simp] theorem ts36 : tze Try.prog 36 = some [.int .u8 0] := by kernel_rfl
@[simp] theorem tz36 : tz Try.prog 36 = some [.sl 0 [] .full] := by kernel_rfl
@[simp] theorem tk42 : tk Try.prog 42 = some (true, 7) := by kernel_rfl
@[simp] theorem to42 : tok Try.prog 42 = true := by kernel_rfl
@[simp] theorem tf42_0 : tf Try.prog 42 0 = some (0, 1, false) := by kernel_rfl
@[simp] theorem tf42_1 : tf Try.prog 42 1 = some (1, 1, false) := by kernel_rfl
@[simp] theorem tf42_2 : tf Try.prog 42 2 = some (2, 1, false) := by kernel_rfl
@[simp] theorem tf42_3 : tf Try.prog 42 3 = some (3, 1, false) := by kernel_rfl
@[simp] theorem tf42_4 : tf Try.prog 42 4 = some (4, 1, false) := by kernel_rfl
@[simp] theorem tf42_5 : tf Try.prog 42 5 = some (5, 1, false) := by kernel_rfl
@[simp] theorem tf42_6 : tf Try.prog 42 6 = some (6, 1, false) := by kernel_rfl
@[simp] theorem tq42 : feq Try.prog 42 = some [true, true, true, true, true, true, true] := by kernel_rfl
@[simp] theorem tb42 : bplan Try.prog 42 = some ([(0, 1), (1, 1), (2, 1), (3, 1), (4, 1), (5, 1), (6, 1)], [.int .i64 0, .int .u32 0, .int .i64 0, .int .u32 0, .int .i64 0, .int .i64 0, .int .i64 0]) := by kernel_rfl
@[simp] theorem tz42 : tz Try.prog 42 = some [.int .i64 0, .int .u32 0, .int .i64 0, .int .u32 0, .int .i64 0, .int .i64 0, .int .i64 0] := by kernel_rfl
@[simp] theorem tk43 : tk Try.prog 43 = some (true, 7) := by kernel_rfl
@[simp] theorem to43 : tok Try.prog 43 = true := by kernel_rfl
@[simp] theorem tf43_0 : tf Try.prog 43 0 = some (0, 1, false) := by kernel_rfl
@[simp] theorem tf43_1 : tf Try.prog 43 1 = some (1, 1, false) := by kernel_rfl
@[simp] theorem tf43_2 : tf Try.prog 43 2 = some (2, 1, false) := by kernel_rfl
@[simp] theorem tf43_3 : tf Try.prog 43 3 = some (3, 1, false) := by kernel_rfl
@[simp] theorem tf43_4 : tf Try.prog 43 4 = some (4, 1, false) := by kernel_rfl
@[simp] theorem tf43_5 : tf Try.prog 43 5 = some (5, 1, false) := by kernel_rfl
@[simp] theorem tf43_6 : tf Try.prog 43 6 = some (6, 1, false) := by kernel_rfl
@[simp] theorem tq43 : feq Try.prog 43 = some [true, true, true, true, true, true, true] := by kernel_rfl
@[simp] theorem tb43 : bplan Try.prog 43 = some ([(0, 1), (1, 1), (2, 1), (3, 1), (4, 1), (5, 1), (6, 1)], [.int .i64 0, .int .u32 0, .int .i64 0, .int .u32 0, .int .i64 0, .int .i64 0, .int .i64 0]) := by kernel_rfl
@[simp] theorem tz43 : tz Try.prog 43 = some [.int .i64 0, .int .u32 0, .int .i64 0, .int .u32 0, .int .i64 0, .int .i64 0, .int .i64 0] := by kernel_rfl
@[simp] theorem tk44 : tk Try.prog 44 = some (false, 1) := by kernel_rfl
@[simp] theorem to44 : tok Try.prog 44 = true := by kernel_rfl
@[simp] theorem te44 : te Try.prog 44 = some (4, none) := by kernel_rfl
@[simp] theorem ta44 : tap Try.prog 44 = some (4, 24) := by kernel_rfl
@[simp] theorem tcl44 : tcl Try.prog 44 = some 4 := by kernel_rfl
@[simp] theorem ts44 : tze Try.prog 44 = some [.int .i64 0, .int .u32 0, .int .u32 0, .int .i64 0] := by kernel_rfl
@[simp] theorem tz44 : tz Try.prog 44 = some [.sl 0 [] .full] := by kernel_rfl
@[simp] theorem tk45 : tk Try.prog 45 = some (true, 15) := by kernel_rfl
@[simp] theorem to45 : tok Try.prog 45 = true := by kernel_rfl
@[simp] theorem tf45_0 : tf Try.prog 45 0 = some (0, 7, true) := by kernel_rfl
@[simp] theorem tf45_1 : tf Try.prog 45 1 = some (7, 1, false) := by kernel_rfl
@[simp] theorem tf45_2 : tf Try.prog 45 2 = some (8, 1, false) := by kernel_rfl
@[simp] theorem tf45_3 : tf Try.prog 45 3 = some (9, 1, false) := by kernel_rfl
@[simp] theorem tf45_4 : tf Try.prog 45 4 = some (10, 1, false) := by kernel_rfl
@[simp] theorem tf45_5 : tf Try.prog 45 5 = some (11, 1, false) := by kernel_rfl
@[simp] theorem tf45_6 : tf Try.prog 45 6 = some (12, 1, false) := by kernel_rfl
@[simp] theorem tf45_7 : tf Try.prog 45 7 = some (13, 1, false) := by kernel_rfl
@[simp] theorem tf45_8 : tf Try.prog 45 8 = some (14, 1, false) := by kernel_rfl
@[simp] theorem tb45 : bplan Try.prog 45 = some ([(0, 7), (7, 1), (8, 1), (9, 1), (10, 1), (11, 1), (12, 1), (13, 1), (14, 1)], [.int .i64 0, .int .u32 0, .int .i64 0, .int .u32 0, .int .i64 0, .int .i64 0, .int .i64 0, .bool false, .bool false, .sl 0 [] .full, .sl 0 [] .full, .int .i64 0, .bool false, .int .u32 0, .int .i64 0]) := by kernel_rfl
@[simp] theorem tz45 : tz Try.prog 45 = some [.int .i64 0, .int .u32 0, .int .i64 0, .int .u32 0, .int .i64 0, .int .i64 0, .int .i64 0, .bool false, .bool false, .sl 0 [] .full, .sl 0 [] .full, .int .i64 0, .bool false, .int .u32 0, .int .i64 0] := by kernel_rfl
@[simp] theorem tk46 : tk Try.prog 46 = some (true, 15) := by kernel_rfl
@[simp] theorem to46 : tok Try.prog 46 = true := by kernel_rfl
@[simp] theorem tf46_0 : tf Try.prog 46 0 = some (0, 7, true) := by kernel_rfl
@[simp] theorem tf46_1 : tf Try.prog 46 1 = some (7, 1, false) := by kernel_rfl
@[simp] theorem tf46_2 : tf Try.prog 46 2 = some (8, 1, false) := by kernel_rfl
@[simp] theorem tf46_3 : tf Try.prog 46 3 = some (9, 1, false) := by kernel_rfl
@[simp] theorem tf46_4 : tf Try.prog 46 4 = some (10, 1, false) := by kernel_rfl
@[simp] theorem tf46_5 : tf Try.prog 46 5 = some (11, 1, false) := by kernel_rfl
@[simp] theorem tf46_6 : tf Try.prog 46 6 = some (12, 1, false) := by kernel_rfl
@[simp] theorem tf46_7 : tf Try.prog 46 7 = some (13, 1, false) := by kernel_rfl
@[simp] theorem tf46_8 : tf Try.prog 46 8 = some (14, 1, false) := by kernel_rfl
@[simp] theorem tb46 : bplan Try.prog 46 = some ([(0, 7), (7, 1), (8, 1), (9, 1), (10, 1), (11, 1), (12, 1), (13, 1), (14, 1)], [.int .i64 0, .int .u32 0, .int .i64 0, .int .u32 0, .int .i64 0, .int .i64 0, .int .i64 0, .bool false, .bool false, .sl 0 [] .full, .sl 0 [] .full, .int .i64 0, .bool false, .int .u32 0, .int .i64 0]) := by kernel_rfl
@[simp] theorem tz46 : tz Try.prog 46 = some [.int .i64 0, .int .u32 0, .int .i64 0, .int .u32 0, .int .i64 0, .int .i64 0, .int .i64 0, .bool false, .bool false, .sl 0 [] .full, .sl 0 [] .full, .int .i64 0, .bool false, .int .u32 0, .int .i64 0] := by kernel_rfl
@[simp] theorem tk59 : tk Try.prog 59 = some (true, 4) := by kernel_rfl
@[simp] theorem to59 : tok Try.prog 59 = true := by kernel_rfl
@[simp] theorem tf59_0 : tf Try.prog 59 0 = some (0, 1, false) := by kernel_rfl
@[simp] theorem tf59_1 : tf Try.prog 59 1 = some (1, 1, false) := by kernel_rfl
@[simp] theorem tf59_2 : tf Try.prog 59 2 = some (2, 1, false) := by kernel_rfl
@[simp] theorem tf59_3 : tf Try.prog 59 3 = some (3, 1, false) := by kernel_rfl
@[simp] theorem tq59 : feq Try.prog 59 = some [true, true, true, true] := by kernel_rfl
@[simp] theorem tb59 : bplan Try.prog 59 = some ([(0, 1), (1, 1), (2, 1), (3, 1)], [.int .i64 0, .int .u32 0, .int .i64 0, .int .u32 0]) := by kernel_rfl
@[simp] theorem tz59 : tz Try.prog 59 = some [.int .i64 0, .int .u32 0, .int .i64 0, .int .u32 0] := by kernel_rfl
@[simp] theorem tk60 : tk Try.prog 60 = some (true, 4) := by kernel_rfl
@[simp] theorem to60 : tok Try.prog 60 = true := by kernel_rfl
@[simp] theorem tf60_0 : tf Try.prog 60 0 = some (0, 1, false) := by kernel_rfl
@[simp] theorem tf60_1 : tf Try.prog 60 1 = some (1, 1, false) := by kernel_rfl
@[simp] theorem tf60_2 : tf Try.prog 60 2 = some (2, 1, false) := by kernel_rfl
@[simp] theorem tf60_3 : tf Try.prog 60 3 = some (3, 1, false) := by kernel_rfl
@[simp] theorem tq60 : feq Try.prog 60 = some [true, true, true, true] := by kernel_rfl
@[simp] theorem tb60 : bplan Try.prog 60 = some ([(0, 1), (1, 1), (2, 1), (3, 1)], [.int .i64 0, .int .u32 0, .int .i64 0, .int .u32 0]) := by kernel_rfl
@[simp] theorem tz60 : tz Try.prog 60 = some [.int .i64 0, .int .u32 0, .int .i64 0, .int .u32 0] := by kernel_rfl
@[simp] theorem tk90 : tk Try.prog 90 = some (false, 1) := by kernel_rfl
@[simp] theorem ti90 : tint Try.prog 90 = some .u64 := by kernel_rfl
@[simp] theorem to90 : tok Try.prog 90 = true := by kernel_rfl
@[simp] theorem tz90 : tz Try.prog 90 = some [.int .u64 0] := by kernel_rfl
@[simp] theorem tk105 : tk Try.prog 105 = some (false, 1) := by kernel_rfl
@[simp] theorem to105 : tok Try.prog 105 = true := by kernel_rfl
@[simp] theorem tz105 : tz Try.prog 105 = some [.nilp] := by kernel_rfl
@[simp] theorem tk110 : tk Try.prog 110 = some (true, 4) := by kernel_rfl
@[simp] theorem to110 : tok Try.prog 110 = true := by kernel_rfl
@[simp] theorem tf110_0 : tf Try.prog 110 0 = some (0, 4, true) := by kernel_rfl
@[simp] theorem tq110 : feq Try.prog 110 = some [true, true, true, true] := by kernel_rfl
@[simp] theorem tb110 : bplan Try.prog 110 = some ([(0, 4)], [.int .i64 0, .int .u32 0, .int .i64 0, .int .u32 0]) := by kernel_rfl
@[simp] theorem tz110 : tz Try.prog 110 = some [.int .i64 0, .int .u32 0, .int .i64 0, .int .u32 0] := by kernel_rfl
@[simp] theorem tk111 : tk Try.prog 111 = some (true, 4) := by kernel_rfl
@[simp] theorem to111 : tok Try.prog 111 = true := by kernel_rfl
@[simp] theorem tf111_0 : tf Try.prog 111 0 = some (0, 4, true) := by kernel_rfl
@[simp] theorem tq111 : feq Try.prog 111 = some [true, true, true, true] := by kernel_rfl
@[simp] theorem tb111 : bplan Try.prog 111 = some ([(0, 4)], [.int .i64 0, .int .u32 0, .int .i64 0, .int .u32 0]) := by kernel_rfl
@[simp] theorem tz111 : tz Try.prog 111 = some [.int .i64 0, .int .u32 0, .int .i64 0, .int .u32 0] := by kernel_rfl
@[simp] theorem tk114 : tk Try.prog 114 = some (false, 1) := by kernel_rfl
@[simp] theorem to114 : tok Try.prog 114 = true := by kernel_rfl
@[simp] theorem tz114 : tz Try.prog 114 = some [.nilp] := by kernel_rfl
@[simp] theorem tk115 : tk Try.prog 115 = some (true, 2) := by kernel_rfl
@[simp] theorem to115 : tok Try.prog 115 = true := by kernel_rfl
@[simp] theorem tf115_0 : tf Try.prog 115 0 = some (0, 1, false) := by kernel_rfl
@[simp] theorem tf115_1 : tf Try.prog 115 1 = some (1, 1, false) := by kernel_rfl
@[simp] theorem tb115 : bplan Try.prog 115 = some ([(0, 1), (1, 1)], [.sl 0 [] .full, .int .i64 0]) := by kernel_rfl
@[simp] theorem tz115 : tz Try.prog 115 = some [.sl 0 [] .full, .int .i64 0] := by kernel_rfl
@[simp] theorem tk116 : tk Try.prog 116 = some (true, 2) := by kernel_rfl
@[simp] theorem to116 : tok Try.prog 116 = true := by kernel_rfl
@[simp] theorem tf116_0 : tf Try.prog 116 0 = some (0, 1, false) := by kernel_rfl
@[simp] theorem tf116_1 : tf Try.prog 116 1 = some (1, 1, false) := by kernel_rfl
@[simp] theorem tb116 : bplan Try.prog 116 = some ([(0, 1), (1, 1)], [.sl 0 [] .full, .int .i64 0]) := by kernel_rfl
@[simp] theorem tz116 : tz Try.prog 116 = some [.sl 0 [] .full, .int .i64 0] := by kernel_rfl
@[simp] theorem tk119 : tk Try.prog 119 = some (false, 1) := by kernel_rfl
@[simp] theorem to119 : tok Try.prog 119 = true := by kernel_rfl
@[simp] theorem tz119 : tz Try.prog 119 = some [.nilp] := by kernel_rfl
@[simp] theorem tk128 : tk Try.prog 128 = some (false, 1) := by kernel_rfl
@[simp] theorem ti128 : tint Try.prog 128 = some .u64 := by kernel_rfl
@[simp] theorem to128 : tok Try.prog 128 = true := by kernel_rfl
@[simp] theorem tz128 : tz Try.prog 128 = some [.int .u64 0] := by kernel_rfl
@[simp] theorem tk135 : tk Try.prog 135 = some (true, 4) := by kernel_rfl
@[simp] theorem to135 : tok Try.prog 135 = true := by kernel_rfl
@[simp] theorem tf135_0 : tf Try.prog 135 0 = some (0, 1, false) := by kernel_rfl
@[simp] theorem tf135_1 : tf Try.prog 135 1 = some (1, 1, false) := by kernel_rfl
@[simp] theorem tf135_2 : tf Try.prog 135 2 = some (2, 1, false) := by kernel_rfl
@[simp] theorem tf135_3 : tf Try.prog 135 3 = some (3, 1, false) := by kernel_rfl
@[simp] theorem tq135 : feq Try.prog 135 = some [true, true, true, true] := by kernel_rfl
@[simp] theorem tb135 : bplan Try.prog 135 = some ([(0, 1), (1, 1), (2, 1), (3, 1)], [.int .i64 0, .int .u32 0, .int .u32 0, .int .i64 0]) := by kernel_rfl
@[simp] theorem tz135 : tz Try.prog 135 = some [.int .i64 0, .int .u32 0, .int .u32 0, .int .i64 0] := by kernel_rfl
@[simp] theorem tk136 : tk Try.prog 136 = some (true, 4) := by kernel_rfl
@[simp] theorem to136 : tok Try.prog 136 = true := by kernel_rfl
@[simp] theorem tf136_0 : tf Try.prog 136 0 = some (0, 1, false) := by kernel_rfl
@[simp] theorem tf136_1 : tf Try.prog 136 1 = some (1, 1, false) := by kernel_rfl
@[simp] theorem tf136_2 : tf Try.prog 136 2 = some (2, 1, false) := by kernel_rfl
@[simp] theorem tf136_3 : tf Try.prog 136 3 = some (3, 1, false) := by kernel_rfl
@[simp] theorem tq136 : feq Try.prog 136 = some [true, true, true, true] := by kernel_rfl
@[simp] theorem tb136 : bplan Try.prog 136 = some ([(0, 1), (1, 1), (2, 1), (3, 1)], [.int .i64 0, .int .u32 0, .int .u32 0, .int .i64 0]) := by kernel_rfl
@[simp] theorem tz136 : tz Try.prog 136 = some [.int .i64 0, .int .u32 0, .int .u32 0, .int .i64 0] := by kernel_rfl
@[simp] theorem tk147 : tk Try.prog 147 = some (false, 1) := by kernel_rfl
@[simp] theorem to147 : tok Try.prog 147 = true := by kernel_rfl
@[simp] theorem tz147 : tz Try.prog 147 = some [.nilp] := by kernel_rfl
@[simp] theorem tk156 : tk Try.prog 156 = some (false, 1) := by kernel_rfl
@[simp] theorem to156 : tok Try.prog 156 = true := by kernel_rfl
@[simp] theorem te156 : te Try.prog 156 = some (1, none) := by kernel_rfl
@[simp] theorem ta156 : tap Try.prog 156 = some (1, 24) := by kernel_rfl
@[simp] theorem tcl156 : tcl Try.prog 156 = some 1 := by kernel_rfl
@[simp] theorem ts156 : tze Try.prog 156 = some [.sl 0 [] .full] := by kernel_rfl
@[simp] theorem tz156 : tz Try.prog 156 = some [.sl 0 [] .full] := by kernel_rfl
@[simp] theorem tk157 : tk Try.prog 157 = some (false, 1) := by kernel_rfl
@[simp] theorem to157 : tok Try.prog 157 = true := by kernel_rfl
@[simp] theorem te157 : te Try.prog 157 = some (1, none) := by kernel_rfl
@[simp] theorem ta157 : tap Try.prog 157 = some (1, 8) := by kernel_rfl
@[simp] theorem tcl157 : tcl Try.prog 157 = some 1 := by kernel_rfl
@[simp] theorem ts157 : tze Try.prog 157 = some [.int .i64 0] := by kernel_rfl
@[simp] theorem tz157 : tz Try.prog 157 = some [.sl 0 [] .full] := by kernel_rfl
@[simp] theorem tk169 : tk Try.prog 169 = some (true, 2) := by kernel_rfl
@[simp] theorem to169 : tok Try.prog 169 = true := by kernel_rfl
@[simp] theorem tf169_0 : tf Try.prog 169 0 = some (0, 1, false) := by kernel_rfl
@[simp] theorem tf169_1 : tf Try.prog 169 1 = some (1, 1, false) := by kernel_rfl
@[simp] theorem tq169 : feq Try.prog 169 = some [true, true] := by kernel_rfl
@[simp] theorem tb169 : bplan Try.prog 169 = some ([(0, 1), (1, 1)], [.int .u32 0, .int .i64 0]) := by kernel_rfl
@[simp] theorem tz169 : tz Try.prog 169 = some [.int .u32 0, .int .i64 0] := by kernel_rfl
@[simp] theorem tk170 : tk Try.prog 170 = some (true, 2) := by kernel_rfl
@[simp] theorem to170 : tok Try.prog 170 = true := by kernel_rfl
@[simp] theorem tf170_0 : tf Try.prog 170 0 = some (0, 1, false) := by kernel_rfl
@[simp] theorem tf170_1 : tf Try.prog 170 1 = some (1, 1, false) := by kernel_rfl
@[simp] theorem tq170 : feq Try.prog 170 = some [true, true] := by kernel_rfl
@[simp] theorem tb170 : bplan Try.prog 170 = some ([(0, 1), (1, 1)], [.int .u32 0, .int .i64 0]) := by kernel_rfl
@[simp] theorem tz170 : tz Try.prog 170 = some [.int .u32 0, .int .i64 0] := by kernel_rfl
@[simp] theorem tk174 : tk Try.prog 174 = some (false, 1) := by kernel_rfl
@[simp] theorem to174 : tok Try.prog 174 = true := by kernel_rfl
@[simp] theorem tz174 : tz Try.prog 174 = some [.nilp] := by kernel_rfl
@[simp] theorem tk175 : tk Try.prog 175 = some (true, 3) := by kernel_rfl
@[simp] theorem to175 : tok Try.prog 175 = true := by kernel_rfl
@[simp] theorem tf175_0 : tf Try.prog 175 0 = some (0, 1, false) := by kernel_rfl
@[simp] theorem tf175_1 : tf Try.prog 175 1 = some (1, 1, false) := by kernel_rfl
@[simp] theorem tf175_2 : tf Try.prog 175 2 = some (2, 1, false) := by kernel_rfl
@[simp] theorem tb175 : bplan Try.prog 175 = some ([(0, 1), (1, 1), (2, 1)], [.sl 0 [] .full, .int .i64 0, .bool false]) := by kernel_rfl
@[simp] theorem tz175 : tz Try.prog 175 = some [.sl 0 [] .full, .int .i64 0, .bool false] := by kernel_rfl
@[simp] theorem tk176 : tk Try.prog 176 = some (true, 3) := by kernel_rfl
@[simp] theorem to176 : tok Try.prog 176 = true := by kernel_rfl
@[simp] theorem tf176_0 : tf Try.prog 176 0 = some (0, 1, false) := by kernel_rfl
@[simp] theorem tf176_1 : tf Try.prog 176 1 = some (1, 1, false) := by kernel_rfl
@[simp] theorem tf176_2 : tf Try.prog 176 2 = some (2, 1, false) := by kernel_rfl
@[simp] theorem tb176 : bplan Try.prog 176 = some ([(0, 1), (1, 1), (2, 1)], [.sl 0 [] .full, .int .i64 0, .bool false]) := by kernel_rfl
@[simp] theorem tz176 : tz Try.prog 176 = some [.sl 0 [] .full, .int .i64 0, .bool false] := by kernel_rfl
@[simp] theorem tk178 : tk Try.prog 178 = some (false, 1) := by kernel_rfl
@[simp] theorem to178 : tok Try.prog 178 = true := by kernel_rfl
@[simp] theorem tz178 : tz Try.prog 178 = some [.nilp] := by kernel_rfl
@[simp] theorem tk183 : tk Try.prog 183 = some (true, 2) := by kernel_rfl
@[simp] theorem to183 : tok Try.prog 183 = true := by kernel_rfl
@[simp] theorem te183 : te Try.prog 183 = some (1, some 2) := by kernel_rfl
@[simp] theorem tb183 : bplan Try.prog 183 = some ([(0, 1), (1, 1)], [.int .i64 0, .int .i64 0]) := by kernel_rfl
@[simp] theorem tz183 : tz Try.prog 183 = some [.int .i64 0, .int .i64 0] := by kernel_rfl
@[simp] theorem tk200 : tk Try.prog 200 = some (false, 1) := by kernel_rfl
@[simp] theorem to200 : tok Try.prog 200 = true := by kernel_rfl
@[simp] theorem tz200 : tz Try.prog 200 = some [.nilp] := by kernel_rfl
end Go.Proofs.Ytmgkemffbmfmpaa
