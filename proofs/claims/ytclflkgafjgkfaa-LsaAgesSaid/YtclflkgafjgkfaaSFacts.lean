/- Closed facts on the types of the program. Printed by facts.py. -/
import Derived.Test.YtclflkgafjgkfaaAmQ
import Derived.Test.YtclflkgafjgkfaaProg
set_option linter.unusedSimpArgs false
set_option linter.unusedVariables false
namespace Go.Proofs.Ytclflkgafjgkfaa
open Go Go.Am
theorem mixed : Try.prog.follows .mixedOrders = true := by kernel_rfl
@[simp] theorem tk2 : tk Try.prog 2 = some (false, 1) := by kernel_rfl
@[simp] theorem ti2 : tint Try.prog 2 = some .i64 := by kernel_rfl
@[simp] theorem to2 : tok Try.prog 2 = true := by kernel_rfl
@[simp] theorem tz2 : tz Try.prog 2 = some [.int .i64 0] := by kernel_rfl
@[simp] theorem tk3 : tk Try.prog 3 = some (false, 1) := by kernel_rfl
@[simp] theorem ti3 : tint Try.prog 3 = some .i64 := by kernel_rfl
@[simp] theorem to3 : tok Try.prog 3 = true := by kernel_rfl
@[simp] theorem tz3 : tz Try.prog 3 = some [.int .i64 0] := by kernel_rfl
@[simp] theorem tk4 : tk Try.prog 4 = some (false, 1) := by kernel_rfl
@[simp] theorem to4 : tok Try.prog 4 = true := by kernel_rfl
@[simp] theorem tz4 : tz Try.prog 4 = some [.bool false] := by kernel_rfl
@[simp] theorem tk5 : tk Try.prog 5 = some (false, 1) := by kernel_rfl
@[simp] theorem ti5 : tint Try.prog 5 = some .u8 := by kernel_rfl
@[simp] theorem to5 : tok Try.prog 5 = true := by kernel_rfl
@[simp] theorem tz5 : tz Try.prog 5 = some [.int .u8 0] := by kernel_rfl
@[simp] theorem tk12 : tk Try.prog 12 = some (false, 1) := by kernel_rfl
@[simp] theorem ti12 : tint Try.prog 12 = some .u64 := by kernel_rfl
@[simp] theorem to12 : tok Try.prog 12 = true := by kernel_rfl
@[simp] theorem tz12 : tz Try.prog 12 = some [.int .u64 0] := by kernel_rfl
@[simp] theorem tk13 : tk Try.prog 13 = some (true, 2) := by kernel_rfl
@[simp] theorem to13 : tok Try.prog 13 = true := by kernel_rfl
@[simp] theorem tf13_0 : tf Try.prog 13 0 = some (0, 1, false) := by kernel_rfl
@[simp] theorem tf13_1 : tf Try.prog 13 1 = some (1, 1, false) := by kernel_rfl
@[simp] theorem tb13 : bplan Try.prog 13 = some ([(0, 1), (1, 1)], [.undef, .int .u64 0]) := by kernel_rfl
@[simp] theorem tz13 : tz Try.prog 13 = some [.undef, .int .u64 0] := by kernel_rfl
@[simp] theorem tk21 : tk Try.prog 21 = some (false, 1) := by kernel_rfl
@[simp] theorem ti21 : tint Try.prog 21 = some .i32 := by kernel_rfl
@[simp] theorem to21 : tok Try.prog 21 = true := by kernel_rfl
@[simp] theorem tz21 : tz Try.prog 21 = some [.int .i32 0] := by kernel_rfl
@[simp] theorem tk22 : tk Try.prog 22 = some (false, 1) := by kernel_rfl
@[simp] theorem ti22 : tint Try.prog 22 = some .u32 := by kernel_rfl
@[simp] theorem to22 : tok Try.prog 22 = true := by kernel_rfl
@[simp] theorem tz22 : tz Try.prog 22 = some [.int .u32 0] := by kernel_rfl
@[simp] theorem tk23 : tk Try.prog 23 = some (true, 7) := by kernel_rfl
@[simp] theorem to23 : tok Try.prog 23 = true := by kernel_rfl
@[simp] theorem tf23_0 : tf Try.prog 23 0 = some (0, 1, false) := by kernel_rfl
@[simp] theorem tf23_1 : tf Try.prog 23 1 = some (1, 1, false) := by kernel_rfl
@[simp] theorem tf23_2 : tf Try.prog 23 2 = some (2, 1, false) := by kernel_rfl
@[simp] theorem tf23_3 : tf Try.prog 23 3 = some (3, 1, false) := by kernel_rfl
@[simp] theorem tf23_4 : tf Try.prog 23 4 = some (4, 1, false) := by kernel_rfl
@[simp] theorem tf23_5 : tf Try.prog 23 5 = some (5, 1, false) := by kernel_rfl
@[simp] theorem tf23_6 : tf Try.prog 23 6 = some (6, 1, false) := by kernel_rfl
@[simp] theorem tq23 : feq Try.prog 23 = some [true, true, true, true, true, true, true] := by kernel_rfl
@[simp] theorem tb23 : bplan Try.prog 23 = some ([(0, 1), (1, 1), (2, 1), (3, 1), (4, 1), (5, 1), (6, 1)], [.int .i64 0, .int .u32 0, .int .i64 0, .int .u32 0, .int .i64 0, .int .i64 0, .int .i64 0]) := by kernel_rfl
@[simp] theorem tz23 : tz Try.prog 23 = some [.int .i64 0, .int .u32 0, .int .i64 0, .int .u32 0, .int .i64 0, .int .i64 0, .int .i64 0] := by kernel_rfl
@[simp] theorem tk24 : tk Try.prog 24 = some (true, 7) := by kernel_rfl
@[simp] theorem to24 : tok Try.prog 24 = true := by kernel_rfl
@[simp] theorem tf24_0 : tf Try.prog 24 0 = some (0, 1, false) := by kernel_rfl
@[simp] theorem tf24_1 : tf Try.prog 24 1 = some (1, 1, false) := by kernel_rfl
@[simp] theorem tf24_2 : tf Try.prog 24 2 = some (2, 1, false) := by kernel_rfl
@[simp] theorem tf24_3 : tf Try.prog 24 3 = some (3, 1, false) := by kernel_rfl
@[simp] theorem tf24_4 : tf Try.prog 24 4 = some (4, 1, false) := by kernel_rfl
@[simp] theorem tf24_5 : tf Try.prog 24 5 = some (5, 1, false) := by kernel_rfl
@[simp] theorem tf24_6 : tf Try.prog 24 6 = some (6, 1, false) := by kernel_rfl
@[simp] theorem tq24 : feq Try.prog 24 = some [true, true, true, true, true, true, true] := by kernel_rfl
@[simp] theorem tb24 : bplan Try.prog 24 = some ([(0, 1), (1, 1), (2, 1), (3, 1), (4, 1), (5, 1), (6, 1)], [.int .i64 0, .int .u32 0, .int .i64 0, .int .u32 0, .int .i64 0, .int .i64 0, .int .i64 0]) := by kernel_rfl
@[simp] theorem tz24 : tz Try.prog 24 = some [.int .i64 0, .int .u32 0, .int .i64 0, .int .u32 0, .int .i64 0, .int .i64 0, .int .i64 0] := by kernel_rfl
@[simp] theorem tk25 : tk Try.prog 25 = some (false, 1) := by kernel_rfl
@[simp] theorem to25 : tok Try.prog 25 = true := by kernel_rfl
@[simp] theorem te25 : te Try.prog 25 = some (4, none) := by kernel_rfl
@[simp] theorem ta25 : tap Try.prog 25 = some (4, 24) := by kernel_rfl
@[simp] theorem tcl25 : tcl Try.prog 25 = some 4 := by kernel_rfl
@[simp] theorem tz25 : tz Try.prog 25 = some [.sl 0 [] .full] := by kernel_rfl
@[simp] theorem tk26 : tk Try.prog 26 = some (false, 1) := by kernel_rfl
@[simp] theorem to26 : tok Try.prog 26 = true := by kernel_rfl
@[simp] theorem te26 : te Try.prog 26 = some (1, none) := by kernel_rfl
@[simp] theorem ta26 : tap Try.prog 26 = some (1, 4) := by kernel_rfl
@[simp] theorem tcl26 : tcl Try.prog 26 = some 1 := by kernel_rfl
@[simp] theorem tz26 : tz Try.prog 26 = some [.sl 0 [] .full] := by kernel_rfl
@[simp] theorem tk27 : tk Try.prog 27 = some (false, 1) := by kernel_rfl
@[simp] theorem ti27 : tint Try.prog 27 = some .u32 := by kernel_rfl
@[simp] theorem to27 : tok Try.prog 27 = true := by kernel_rfl
@[simp] theorem tz27 : tz Try.prog 27 = some [.int .u32 0] := by kernel_rfl
@[simp] theorem tk28 : tk Try.prog 28 = some (true, 15) := by kernel_rfl
@[simp] theorem to28 : tok Try.prog 28 = true := by kernel_rfl
@[simp] theorem tf28_0 : tf Try.prog 28 0 = some (0, 7, true) := by kernel_rfl
@[simp] theorem tf28_1 : tf Try.prog 28 1 = some (7, 1, false) := by kernel_rfl
@[simp] theorem tf28_2 : tf Try.prog 28 2 = some (8, 1, false) := by kernel_rfl
@[simp] theorem tf28_3 : tf Try.prog 28 3 = some (9, 1, false) := by kernel_rfl
@[simp] theorem tf28_4 : tf Try.prog 28 4 = some (10, 1, false) := by kernel_rfl
@[simp] theorem tf28_5 : tf Try.prog 28 5 = some (11, 1, false) := by kernel_rfl
@[simp] theorem tf28_6 : tf Try.prog 28 6 = some (12, 1, false) := by kernel_rfl
@[simp] theorem tf28_7 : tf Try.prog 28 7 = some (13, 1, false) := by kernel_rfl
@[simp] theorem tf28_8 : tf Try.prog 28 8 = some (14, 1, false) := by kernel_rfl
@[simp] theorem tb28 : bplan Try.prog 28 = some ([(0, 7), (7, 1), (8, 1), (9, 1), (10, 1), (11, 1), (12, 1), (13, 1), (14, 1)], [.int .i64 0, .int .u32 0, .int .i64 0, .int .u32 0, .int .i64 0, .int .i64 0, .int .i64 0, .bool false, .bool false, .sl 0 [] .full, .sl 0 [] .full, .int .i64 0, .bool false, .int .u32 0, .int .i64 0]) := by kernel_rfl
@[simp] theorem tz28 : tz Try.prog 28 = some [.int .i64 0, .int .u32 0, .int .i64 0, .int .u32 0, .int .i64 0, .int .i64 0, .int .i64 0, .bool false, .bool false, .sl 0 [] .full, .sl 0 [] .full, .int .i64 0, .bool false, .int .u32 0, .int .i64 0] := by kernel_rfl
@[simp] theorem tk29 : tk Try.prog 29 = some (true, 15) := by kernel_rfl
@[simp] theorem to29 : tok Try.prog 29 = true := by kernel_rfl
@[simp] theorem tf29_0 : tf Try.prog 29 0 = some (0, 7, true) := by kernel_rfl
@[simp] theorem tf29_1 : tf Try.prog 29 1 = some (7, 1, false) := by kernel_rfl
@[simp] theorem tf29_2 : tf Try.prog 29 2 = some (8, 1, false) := by kernel_rfl
@[simp] theorem tf29_3 : tf Try.prog 29 3 = some (9, 1, false) := by kernel_rfl
@[simp] theorem tf29_4 : tf Try.prog 29 4 = some (10, 1, false) := by kernel_rfl
@[simp] theorem tf29_5 : tf Try.prog 29 5 = some (11, 1, false) := by kernel_rfl
@[simp] theorem tf29_6 : tf Try.prog 29 6 = some (12, 1, false) := by kernel_rfl
@[simp] theorem tf29_7 : tf Try.prog 29 7 = some (13, 1, false) := by kernel_rfl
@[simp] theorem tf29_8 : tf Try.prog 29 8 = some (14, 1, false) := by kernel_rfl
@[simp] theorem tb29 : bplan Try.prog 29 = some ([(0, 7), (7, 1), (8, 1), (9, 1), (10, 1), (11, 1), (12, 1), (13, 1), (14, 1)], [.int .i64 0, .int .u32 0, .int .i64 0, .int .u32 0, .int .i64 0, .int .i64 0, .int .i64 0, .bool false, .bool false, .sl 0 [] .full, .sl 0 [] .full, .int .i64 0, .bool false, .int .u32 0, .int .i64 0]) := by kernel_rfl
@[simp] theorem tz29 : tz Try.prog 29 = some [.int .i64 0, .int .u32 0, .int .i64 0, .int .u32 0, .int .i64 0, .int .i64 0, .int .i64 0, .bool false, .bool false, .sl 0 [] .full, .sl 0 [] .full, .int .i64 0, .bool false, .int .u32 0, .int .i64 0] := by kernel_rfl
@[simp] theorem tk30 : tk Try.prog 30 = some (false, 1) := by kernel_rfl
@[simp] theorem ti30 : tint Try.prog 30 = some .i64 := by kernel_rfl
@[simp] theorem to30 : tok Try.prog 30 = true := by kernel_rfl
@[simp] theorem tz30 : tz Try.prog 30 = some [.int .i64 0] := by kernel_rfl
@[simp] theorem tk39 : tk Try.prog 39 = some (false, 1) := by kernel_rfl
@[simp] theorem to39 : tok Try.prog 39 = true := by kernel_rfl
@[simp] theorem te39 : te Try.prog 39 = some (1, none) := by kernel_rfl
@[simp] theorem ta39 : tap Try.prog 39 = some (1, 1) := by kernel_rfl
@[simp] theorem tcl39 : tcl Try.prog 39 = some 1 := by kernel_rfl
@[simp] theorem tz39 : tz Try.prog 39 = some [.sl 0 [] .full] := by kernel_rfl
@[simp] theorem tk44 : tk Try.prog 44 = some (true, 4) := by kernel_rfl
@[simp] theorem to44 : tok Try.prog 44 = true := by kernel_rfl
@[simp] theorem tf44_0 : tf Try.prog 44 0 = some (0, 1, false) := by kernel_rfl
@[simp] theorem tf44_1 : tf Try.prog 44 1 = some (1, 1, false) := by kernel_rfl
@[simp] theorem tf44_2 : tf Try.prog 44 2 = some (2, 1, false) := by kernel_rfl
@[simp] theorem tf44_3 : tf Try.prog 44 3 = some (3, 1, false) := by kernel_rfl
@[simp] theorem tq44 : feq Try.prog 44 = some [true, true, true, true] := by kernel_rfl
@[simp] theorem tb44 : bplan Try.prog 44 = some ([(0, 1), (1, 1), (2, 1), (3, 1)], [.int .i64 0, .int .u32 0, .int .i64 0, .int .u32 0]) := by kernel_rfl
@[simp] theorem tz44 : tz Try.prog 44 = some [.int .i64 0, .int .u32 0, .int .i64 0, .int .u32 0] := by kernel_rfl
@[simp] theorem tk45 : tk Try.prog 45 = some (true, 4) := by kernel_rfl
@[simp] theorem to45 : tok Try.prog 45 = true := by kernel_rfl
@[simp] theorem tf45_0 : tf Try.prog 45 0 = some (0, 1, false) := by kernel_rfl
@[simp] theorem tf45_1 : tf Try.prog 45 1 = some (1, 1, false) := by kernel_rfl
@[simp] theorem tf45_2 : tf Try.prog 45 2 = some (2, 1, false) := by kernel_rfl
@[simp] theorem tf45_3 : tf Try.prog 45 3 = some (3, 1, false) := by kernel_rfl
@[simp] theorem tq45 : feq Try.prog 45 = some [true, true, true, true] := by kernel_rfl
@[simp] theorem tb45 : bplan Try.prog 45 = some ([(0, 1), (1, 1), (2, 1), (3, 1)], [.int .i64 0, .int .u32 0, .int .i64 0, .int .u32 0]) := by kernel_rfl
@[simp] theorem tz45 : tz Try.prog 45 = some [.int .i64 0, .int .u32 0, .int .i64 0, .int .u32 0] := by kernel_rfl
@[simp] theorem tk49 : tk Try.prog 49 = some (true, 2) := by kernel_rfl
@[simp] theorem to49 : tok Try.prog 49 = true := by kernel_rfl
@[simp] theorem tf49_0 : tf Try.prog 49 0 = some (0, 1, false) := by kernel_rfl
@[simp] theorem tf49_1 : tf Try.prog 49 1 = some (1, 1, false) := by kernel_rfl
@[simp] theorem tq49 : feq Try.prog 49 = some [true, true] := by kernel_rfl
@[simp] theorem tb49 : bplan Try.prog 49 = some ([(0, 1), (1, 1)], [.int .u32 0, .int .i64 0]) := by kernel_rfl
@[simp] theorem tz49 : tz Try.prog 49 = some [.int .u32 0, .int .i64 0] := by kernel_rfl
@[simp] theorem tk50 : tk Try.prog 50 = some (true, 2) := by kernel_rfl
@[simp] theorem to50 : tok Try.prog 50 = true := by kernel_rfl
@[simp] theorem tf50_0 : tf Try.prog 50 0 = some (0, 1, false) := by kernel_rfl
@[simp] theorem tf50_1 : tf Try.prog 50 1 = some (1, 1, false) := by kernel_rfl
@[simp] theorem tq50 : feq Try.prog 50 = some [true, true] := by kernel_rfl
@[simp] theorem tb50 : bplan Try.prog 50 = some ([(0, 1), (1, 1)], [.int .u32 0, .int .i64 0]) := by kernel_rfl
@[simp] theorem tz50 : tz Try.prog 50 = some [.int .u32 0, .int .i64 0] := by kernel_rfl
@[simp] theorem tk70 : tk Try.prog 70 = some (false, 1) := by kernel_rfl
@[simp] theorem ti70 : tint Try.prog 70 = some .u64 := by kernel_rfl
@[simp] theorem to70 : tok Try.prog 70 = true := by kernel_rfl
@[simp] theorem tz70 : tz Try.prog 70 = some [.int .u64 0] := by kernel_rfl
@[simp] theorem tk74 : tk Try.prog 74 = some (true, 4) := by kernel_rfl
@[simp] theorem to74 : tok Try.prog 74 = true := by kernel_rfl
@[simp] theorem tf74_0 : tf Try.prog 74 0 = some (0, 1, false) := by kernel_rfl
@[simp] theorem tf74_1 : tf Try.prog 74 1 = some (1, 1, false) := by kernel_rfl
@[simp] theorem tf74_2 : tf Try.prog 74 2 = some (2, 1, false) := by kernel_rfl
@[simp] theorem tf74_3 : tf Try.prog 74 3 = some (3, 1, false) := by kernel_rfl
@[simp] theorem tq74 : feq Try.prog 74 = some [true, true, true, true] := by kernel_rfl
@[simp] theorem tb74 : bplan Try.prog 74 = some ([(0, 1), (1, 1), (2, 1), (3, 1)], [.int .i64 0, .int .u32 0, .int .u32 0, .int .i64 0]) := by kernel_rfl
@[simp] theorem tz74 : tz Try.prog 74 = some [.int .i64 0, .int .u32 0, .int .u32 0, .int .i64 0] := by kernel_rfl
@[simp] theorem tk75 : tk Try.prog 75 = some (true, 4) := by kernel_rfl
@[simp] theorem to75 : tok Try.prog 75 = true := by kernel_rfl
@[simp] theorem tf75_0 : tf Try.prog 75 0 = some (0, 1, false) := by kernel_rfl
@[simp] theorem tf75_1 : tf Try.prog 75 1 = some (1, 1, false) := by kernel_rfl
@[simp] theorem tf75_2 : tf Try.prog 75 2 = some (2, 1, false) := by kernel_rfl
@[simp] theorem tf75_3 : tf Try.prog 75 3 = some (3, 1, false) := by kernel_rfl
@[simp] theorem tq75 : feq Try.prog 75 = some [true, true, true, true] := by kernel_rfl
@[simp] theorem tb75 : bplan Try.prog 75 = some ([(0, 1), (1, 1), (2, 1), (3, 1)], [.int .i64 0, .int .u32 0, .int .u32 0, .int .i64 0]) := by kernel_rfl
@[simp] theorem tz75 : tz Try.prog 75 = some [.int .i64 0, .int .u32 0, .int .u32 0, .int .i64 0] := by kernel_rfl
@[simp] theorem tk88 : tk Try.prog 88 = some (false, 1) := by kernel_rfl
@[simp] theorem to88 : tok Try.prog 88 = true := by kernel_rfl
@[simp] theorem tz88 : tz Try.prog 88 = some [.nilp] := by kernel_rfl
@[simp] theorem tk89 : tk Try.prog 89 = some (true, 3) := by kernel_rfl
@[simp] theorem to89 : tok Try.prog 89 = true := by kernel_rfl
@[simp] theorem tf89_0 : tf Try.prog 89 0 = some (0, 1, false) := by kernel_rfl
@[simp] theorem tf89_1 : tf Try.prog 89 1 = some (1, 1, false) := by kernel_rfl
@[simp] theorem tf89_2 : tf Try.prog 89 2 = some (2, 1, false) := by kernel_rfl
@[simp] theorem tb89 : bplan Try.prog 89 = some ([(0, 1), (1, 1), (2, 1)], [.sl 0 [] .full, .int .i64 0, .bool false]) := by kernel_rfl
@[simp] theorem tz89 : tz Try.prog 89 = some [.sl 0 [] .full, .int .i64 0, .bool false] := by kernel_rfl
@[simp] theorem tk90 : tk Try.prog 90 = some (true, 3) := by kernel_rfl
@[simp] theorem to90 : tok Try.prog 90 = true := by kernel_rfl
@[simp] theorem tf90_0 : tf Try.prog 90 0 = some (0, 1, false) := by kernel_rfl
@[simp] theorem tf90_1 : tf Try.prog 90 1 = some (1, 1, false) := by kernel_rfl
@[simp] theorem tf90_2 : tf Try.prog 90 2 = some (2, 1, false) := by kernel_rfl
@[simp] theorem tb90 : bplan Try.prog 90 = some ([(0, 1), (1, 1), (2, 1)], [.sl 0 [] .full, .int .i64 0, .bool false]) := by kernel_rfl
@[simp] theorem tz90 : tz Try.prog 90 = some [.sl 0 [] .full, .int .i64 0, .bool false] := by kernel_rfl
@[simp] theorem tk94 : tk Try.prog 94 = some (false, 1) := by kernel_rfl
@[simp] theorem to94 : tok Try.prog 94 = true := by kernel_rfl
@[simp] theorem tz94 : tz Try.prog 94 = some [.nilp] := by kernel_rfl
@[simp] theorem tk99 : tk Try.prog 99 = some (false, 1) := by kernel_rfl
@[simp] theorem to99 : tok Try.prog 99 = true := by kernel_rfl
@[simp] theorem te99 : te Try.prog 99 = some (1, none) := by kernel_rfl
@[simp] theorem ta99 : tap Try.prog 99 = some (1, 8) := by kernel_rfl
@[simp] theorem tcl99 : tcl Try.prog 99 = some 1 := by kernel_rfl
@[simp] theorem tz99 : tz Try.prog 99 = some [.sl 0 [] .full] := by kernel_rfl
@[simp] theorem tk108 : tk Try.prog 108 = some (false, 1) := by kernel_rfl
@[simp] theorem ti108 : tint Try.prog 108 = some .u64 := by kernel_rfl
@[simp] theorem to108 : tok Try.prog 108 = true := by kernel_rfl
@[simp] theorem tz108 : tz Try.prog 108 = some [.int .u64 0] := by kernel_rfl
@[simp] theorem tk116 : tk Try.prog 116 = some (true, 2) := by kernel_rfl
@[simp] theorem to116 : tok Try.prog 116 = true := by kernel_rfl
@[simp] theorem te116 : te Try.prog 116 = some (1, some 2) := by kernel_rfl
@[simp] theorem tb116 : bplan Try.prog 116 = some ([(0, 1), (1, 1)], [.int .i64 0, .int .i64 0]) := by kernel_rfl
@[simp] theorem tz116 : tz Try.prog 116 = some [.int .i64 0, .int .i64 0] := by kernel_rfl
@[simp] theorem tk126 : tk Try.prog 126 = some (false, 1) := by kernel_rfl
@[simp] theorem to126 : tok Try.prog 126 = true := by kernel_rfl
@[simp] theorem te126 : te Try.prog 126 = some (1, none) := by kernel_rfl
@[simp] theorem ta126 : tap Try.prog 126 = some (1, 24) := by kernel_rfl
@[simp] theorem tcl126 : tcl Try.prog 126 = some 1 := by kernel_rfl
@[simp] theorem tz126 : tz Try.prog 126 = some [.sl 0 [] .full] := by kernel_rfl
@[simp] theorem tk137 : tk Try.prog 137 = some (false, 1) := by kernel_rfl
@[simp] theorem to137 : tok Try.prog 137 = true := by kernel_rfl
@[simp] theorem tz137 : tz Try.prog 137 = some [.nilp] := by kernel_rfl
end Go.Proofs.Ytclflkgafjgkfaa
