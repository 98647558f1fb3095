/- Closed facts on the types of the program. Printed by facts.py. -/
import Derived.Test.YthonenmafbpbkaaBmQ
import Derived.Test.YthonenmafbpbkaaProg
set_option linter.unusedSimpArgs false
set_option linter.unusedVariables false
namespace Go.Proofs.Ythonenmafbpbkaa
open Go Go.Am
theorem mixed : Try.prog.follows .mixedOrders = true := by kernel_rfl
@[simp] theorem tk1 : tk Try.prog 1 = some (false, 1) := by kernel_rfl
@[simp] theorem to1 : tok Try.prog 1 = true := by kernel_rfl
@[simp] theorem tz1 : tz Try.prog 1 = some [.nilf] := by kernel_rfl
@[simp] theorem tk2 : tk Try.prog 2 = some (false, 1) := by kernel_rfl
@[simp] theorem ti2 : tint Try.prog 2 = some .i64 := by kernel_rfl
@[simp] theorem to2 : tok Try.prog 2 = true := by kernel_rfl
@[simp] theorem tz2 : tz Try.prog 2 = some [.int .i64 0] := by kernel_rfl
@[simp] theorem tk3 : tk Try.prog 3 = some (false, 1) := by kernel_rfl
@[simp] theorem ti3 : tint Try.prog 3 = some .i64 := by kernel_rfl
@[simp] theorem to3 : tok Try.prog 3 = true := by kernel_rfl
@[simp] theorem tz3 : tz Try.prog 3 = some [.int .i64 0] := by kernel_rfl
@[simp] theorem tk4 : tk Try.prog 4 = some (false, 1) := by kernel_rfl
@[simp] theorem to4 : tok Try.prog 4 = true := by kernel_rfl
@[simp] theorem tz4 : tz Try.prog 4 = some [.bool false] := by kernel_rfl
@[simp] theorem tk5 : tk Try.prog 5 = some (false, 1) := by kernel_rfl
@[simp] theorem ti5 : tint Try.prog 5 = some .u8 := by kernel_rfl
@[simp] theorem to5 : tok Try.prog 5 = true := by kernel_rfl
@[simp] theorem tz5 : tz Try.prog 5 = some [.int .u8 0] := by kernel_rfl
@[simp] theorem tk12 : tk Try.prog 12 = some (false, 1) := by kernel_rfl
@[simp] theorem ti12 : tint Try.prog 12 = some .u64 := by kernel_rfl
@[simp] theorem to12 : tok Try.prog 12 = true := by kernel_rfl
@[simp] theorem tz12 : tz Try.prog 12 = some [.int .u64 0] := by kernel_rfl
@[simp] theorem tk13 : tk Try.prog 13 = some (true, 2) := by kernel_rfl
@[simp] theorem to13 : tok Try.prog 13 = true := by kernel_rfl
@[simp] theorem tf13_0 : tf Try.prog 13 0 = some (0, 1, false) := by kernel_rfl
@[simp] theorem tf13_1 : tf Try.prog 13 1 = some (1, 1, false) := by kernel_rfl
@[simp] theorem tb13 : bplan Try.prog 13 = some ([(0, 1), (1, 1)], [.undef, .int .u64 0]) := by kernel_rfl
@[simp] theorem tz13 : tz Try.prog 13 = some [.undef, .int .u64 0] := by kernel_rfl
@[simp] theorem tk21 : tk Try.prog 21 = some (false, 1) := by kernel_rfl
@[simp] theorem ti21 : tint Try.prog 21 = some .i32 := by kernel_rfl
@[simp] theorem to21 : tok Try.prog 21 = true := by kernel_rfl
@[simp] theorem tz21 : tz Try.prog 21 = some [.int .i32 0] := by kernel_rfl
@[simp] theorem tk22 : tk Try.prog 22 = some (false, 1) := by kernel_rfl
@[simp] theorem to22 : tok Try.prog 22 = true := by kernel_rfl
@[simp] theorem te22 : te Try.prog 22 = some (15, none) := by kernel_rfl
@[simp] theorem ta22 : tap Try.prog 22 = some (15, 120) := by kernel_rfl
@[simp] theorem tcl22 : tcl Try.prog 22 = some 15 := by kernel_rfl
@[simp] theorem ts22 : tze Try.prog 22 = some [.int .i64 0, .int .u32 0, .int .i64 0, .int .u32 0, .int .u32 0, .int .i64 0, .int .i64 0, .int .i64 0, .int .i64 0, .bool false, .int .u32 0, .int .u32 0, .int .i64 0, .int .i64 0, .sl 0 [] .full] := by kernel_rfl
@[simp] theorem tz22 : tz Try.prog 22 = some [.sl 0 [] .full] := by kernel_rfl
@[simp] theorem tk23 : tk Try.prog 23 = some (false, 1) := by kernel_rfl
@[simp] theorem to23 : tok Try.prog 23 = true := by kernel_rfl
@[simp] theorem te23 : te Try.prog 23 = some (1, none) := by kernel_rfl
@[simp] theorem ta23 : tap Try.prog 23 = some (1, 4) := by kernel_rfl
@[simp] theorem tcl23 : tcl Try.prog 23 = some 1 := by kernel_rfl
@[simp] theorem ts23 : tze Try.prog 23 = some [.int .u32 0] := by kernel_rfl
@[simp] theorem tz23 : tz Try.prog 23 = some [.sl 0 [] .full] := by kernel_rfl
@[simp] theorem tk24 : tk Try.prog 24 = some (false, 1) := by kernel_rfl
@[simp] theorem ti24 : tint Try.prog 24 = some .u32 := by kernel_rfl
@[simp] theorem to24 : tok Try.prog 24 = true := by kernel_rfl
@[simp] theorem tz24 : tz Try.prog 24 = some [.int .u32 0] := by kernel_rfl
@[simp] theorem tk25 : tk Try.prog 25 = some (true, 7) := by kernel_rfl
@[simp] theorem to25 : tok Try.prog 25 = true := by kernel_rfl
@[simp] theorem tf25_0 : tf Try.prog 25 0 = some (0, 1, false) := by kernel_rfl
@[simp] theorem tf25_1 : tf Try.prog 25 1 = some (1, 1, false) := by kernel_rfl
@[simp] theorem tf25_2 : tf Try.prog 25 2 = some (2, 1, false) := by kernel_rfl
@[simp] theorem tf25_3 : tf Try.prog 25 3 = some (3, 1, false) := by kernel_rfl
@[simp] theorem tf25_4 : tf Try.prog 25 4 = some (4, 1, false) := by kernel_rfl
@[simp] theorem tf25_5 : tf Try.prog 25 5 = some (5, 1, false) := by kernel_rfl
@[simp] theorem tf25_6 : tf Try.prog 25 6 = some (6, 1, false) := by kernel_rfl
@[simp] theorem tq25 : feq Try.prog 25 = some [true, true, true, true, true, true, true] := by kernel_rfl
@[simp] theorem tb25 : bplan Try.prog 25 = some ([(0, 1), (1, 1), (2, 1), (3, 1), (4, 1), (5, 1), (6, 1)], [.int .i64 0, .int .u32 0, .int .i64 0, .int .u32 0, .int .i64 0, .int .i64 0, .int .i64 0]) := by kernel_rfl
@[simp] theorem tz25 : tz Try.prog 25 = some [.int .i64 0, .int .u32 0, .int .i64 0, .int .u32 0, .int .i64 0, .int .i64 0, .int .i64 0] := by kernel_rfl
@[simp] theorem tk26 : tk Try.prog 26 = some (true, 7) := by kernel_rfl
@[simp] theorem to26 : tok Try.prog 26 = true := by kernel_rfl
@[simp] theorem tf26_0 : tf Try.prog 26 0 = some (0, 1, false) := by kernel_rfl
@[simp] theorem tf26_1 : tf Try.prog 26 1 = some (1, 1, false) := by kernel_rfl
@[simp] theorem tf26_2 : tf Try.prog 26 2 = some (2, 1, false) := by kernel_rfl
@[simp] theorem tf26_3 : tf Try.prog 26 3 = some (3, 1, false) := by kernel_rfl
@[simp] theorem tf26_4 : tf Try.prog 26 4 = some (4, 1, false) := by kernel_rfl
@[simp] theorem tf26_5 : tf Try.prog 26 5 = some (5, 1, false) := by kernel_rfl
@[simp] theorem tf26_6 : tf Try.prog 26 6 = some (6, 1, false) := by kernel_rfl
@[simp] theorem tq26 : feq Try.prog 26 = some [true, true, true, true, true, true, true] := by kernel_rfl
@[simp] theorem tb26 : bplan Try.prog 26 = some ([(0, 1), (1, 1), (2, 1), (3, 1), (4, 1), (5, 1), (6, 1)], [.int .i64 0, .int .u32 0, .int .i64 0, .int .u32 0, .int .i64 0, .int .i64 0, .int .i64 0]) := by kernel_rfl
@[simp] theorem tz26 : tz Try.prog 26 = some [.int .i64 0, .int .u32 0, .int .i64 0, .int .u32 0, .int .i64 0, .int .i64 0, .int .i64 0] := by kernel_rfl
@[simp] theorem tk27 : tk Try.prog 27 = some (false, 1) := by kernel_rfl
@[simp] theorem to27 : tok Try.prog 27 = true := by kernel_rfl
@[simp] theorem tz27 : tz Try.prog 27 = some [.nilf] := by kernel_rfl
@[simp] theorem tk28 : tk Try.prog 28 = some (false, 1) := by kernel_rfl
@[simp] theorem to28 : tok Try.prog 28 = true := by kernel_rfl
@[simp] theorem tz28 : tz Try.prog 28 = some [.nilf] := by kernel_rfl
@[simp] theorem tk29 : tk Try.prog 29 = some (false, 1) := by kernel_rfl
@[simp] theorem to29 : tok Try.prog 29 = true := by kernel_rfl
@[simp] theorem te29 : te Try.prog 29 = some (1, none) := by kernel_rfl
@[simp] theorem ta29 : tap Try.prog 29 = some (1, 8) := by kernel_rfl
@[simp] theorem tcl29 : tcl Try.prog 29 = some 1 := by kernel_rfl
@[simp] theorem ts29 : tze Try.prog 29 = some [.int .i64 0] := by kernel_rfl
@[simp] theorem tz29 : tz Try.prog 29 = some [.sl 0 [] .full] := by kernel_rfl
@[simp] theorem tk31 : tk Try.prog 31 = some (false, 1) := by kernel_rfl
@[simp] theorem to31 : tok Try.prog 31 = true := by kernel_rfl
@[simp] theorem tz31 : tz Try.prog 31 = some [.nilf] := by kernel_rfl
@[simp] theorem tk32 : tk Try.prog 32 = some (false, 1) := by kernel_rfl
@[simp] theorem to32 : tok Try.prog 32 = true := by kernel_rfl
@[simp] theorem tz32 : tz Try.prog 32 = some [.nilf] := by kernel_rfl
@[simp] theorem tk33 : tk Try.prog 33 = some (false, 1) := by kernel_rfl
@[simp] theorem to33 : tok Try.prog 33 = true := by kernel_rfl
@[simp] theorem tz33 : tz Try.prog 33 = some [.nilf] := by kernel_rfl
@[simp] theorem tk34 : tk Try.prog 34 = some (false, 1) := by kernel_rfl
@[simp] theorem to34 : tok Try.prog 34 = true := by kernel_rfl
@[simp] theorem tz34 : tz Try.prog 34 = some [.nilf] := by kernel_rfl
@[simp] theorem tk35 : tk Try.prog 35 = some (false, 1) := by kernel_rfl
@[simp] theorem ti35 : tint Try.prog 35 = some .u32 := by kernel_rfl
@[simp] theorem to35 : tok Try.prog 35 = true := by kernel_rfl
@[simp] theorem tz35 : tz Try.prog 35 = some [.int .u32 0] := by kernel_rfl
@[simp] theorem tk36 : tk Try.prog 36 = some (false, 1) := by kernel_rfl
@[simp] theorem to36 : tok Try.prog 36 = true := by kernel_rfl
@[simp] theorem te36 : te Try.prog 36 = some (7, none) := by kernel_rfl
@[simp] theorem ta36 : tap Try.prog 36 = some (7, 56) := by kernel_rfl
@[simp] theorem tcl36 : tcl Try.prog 36 = some 7 := by kernel_rfl
@[simp] theorem ts36 : tze Try.prog 36 = some [.int .i64 0, .int .u32 0, .int .i64 0, .int .u32 0, .int .i64 0, .int .i64 0, .int .i64 0] := by kernel_rfl
@[simp] theorem tz36 : tz Try.prog 36 = some [.sl 0 [] .full] := by kernel_rfl
@[simp] theorem tk37 : tk Try.prog 37 = some (true, 15) := by kernel_rfl
@[simp] theorem to37 : tok Try.prog 37 = true := by kernel_rfl
@[simp] theorem tf37_0 : tf Try.prog 37 0 = some (0, 1, false) := by kernel_rfl
@[simp] theorem tf37_1 : tf Try.prog 37 1 = some (1, 1, false) := by kernel_rfl
@[simp] theorem tf37_2 : tf Try.prog 37 2 = some (2, 1, false) := by kernel_rfl
@[simp] theorem tf37_3 : tf Try.prog 37 3 = some (3, 1, false) := by kernel_rfl
@[simp] theorem tf37_4 : tf Try.prog 37 4 = some (4, 1, false) := by kernel_rfl
@[simp] theorem tf37_5 : tf Try.prog 37 5 = some (5, 1, false) := by kernel_rfl
@[simp] theorem tf37_6 : tf Try.prog 37 6 = some (6, 1, false) := by kernel_rfl
@[simp] theorem tf37_7 : tf Try.prog 37 7 = some (7, 1, false) := by kernel_rfl
@[simp] theorem tf37_8 : tf Try.prog 37 8 = some (8, 1, false) := by kernel_rfl
@[simp] theorem tf37_9 : tf Try.prog 37 9 = some (9, 1, false) := by kernel_rfl
@[simp] theorem tf37_10 : tf Try.prog 37 10 = some (10, 1, false) := by kernel_rfl
@[simp] theorem tf37_11 : tf Try.prog 37 11 = some (11, 1, false) := by kernel_rfl
@[simp] theorem tf37_12 : tf Try.prog 37 12 = some (12, 1, false) := by kernel_rfl
@[simp] theorem tf37_13 : tf Try.prog 37 13 = some (13, 1, false) := by kernel_rfl
@[simp] theorem tf37_14 : tf Try.prog 37 14 = some (14, 1, false) := by kernel_rfl
@[simp] theorem tb37 : bplan Try.prog 37 = some ([(0, 1), (1, 1), (2, 1), (3, 1), (4, 1), (5, 1), (6, 1), (7, 1), (8, 1), (9, 1), (10, 1), (11, 1), (12, 1), (13, 1), (14, 1)], [.int .u32 0, .int .u32 0, .int .i64 0, .int .u32 0, .int .u32 0, .int .i64 0, .int .i64 0, .bool false, .int .i64 0, .sl 0 [] .full, .sl 0 [] .full, .bool false, .sl 0 [] .full, .sl 0 [] .full, .int .i64 0]) := by kernel_rfl
@[simp] theorem tz37 : tz Try.prog 37 = some [.int .u32 0, .int .u32 0, .int .i64 0, .int .u32 0, .int .u32 0, .int .i64 0, .int .i64 0, .bool false, .int .i64 0, .sl 0 [] .full, .sl 0 [] .full, .bool false, .sl 0 [] .full, .sl 0 [] .full, .int .i64 0] := by kernel_rfl
@[simp] theorem tk38 : tk Try.prog 38 = some (true, 15) := by kernel_rfl
@[simp] theorem to38 : tok Try.prog 38 = true := by kernel_rfl
@[simp] theorem tf38_0 : tf Try.prog 38 0 = some (0, 1, false) := by kernel_rfl
@[simp] theorem tf38_1 : tf Try.prog 38 1 = some (1, 1, false) := by kernel_rfl
@[simp] theorem tf38_2 : tf Try.prog 38 2 = some (2, 1, false) := by kernel_rfl
@[simp] theorem tf38_3 : tf Try.prog 38 3 = some (3, 1, false) := by kernel_rfl
@[simp] theorem tf38_4 : tf Try.prog 38 4 = some (4, 1, false) := by kernel_rfl
@[simp] theorem tf38_5 : tf Try.prog 38 5 = some (5, 1, false) := by kernel_rfl
@[simp] theorem tf38_6 : tf Try.prog 38 6 = some (6, 1, false) := by kernel_rfl
@[simp] theorem tf38_7 : tf Try.prog 38 7 = some (7, 1, false) := by kernel_rfl
@[simp] theorem tf38_8 : tf Try.prog 38 8 = some (8, 1, false) := by kernel_rfl
@[simp] theorem tf38_9 : tf Try.prog 38 9 = some (9, 1, false) := by kernel_rfl
@[simp] theorem tf38_10 : tf Try.prog 38 10 = some (10, 1, false) := by kernel_rfl
@[simp] theorem tf38_11 : tf Try.prog 38 11 = some (11, 1, false) := by kernel_rfl
@[simp] theorem tf38_12 : tf Try.prog 38 12 = some (12, 1, false) := by kernel_rfl
@[simp] theorem tf38_13 : tf Try.prog 38 13 = some (13, 1, false) := by kernel_rfl
@[simp] theorem tf38_14 : tf Try.prog 38 14 = some (14, 1, false) := by kernel_rfl
@[simp] theorem tb38 : bplan Try.prog 38 = some ([(0, 1), (1, 1), (2, 1), (3, 1), (4, 1), (5, 1), (6, 1), (7, 1), (8, 1), (9, 1), (10, 1), (11, 1), (12, 1), (13, 1), (14, 1)], [.int .u32 0, .int .u32 0, .int .i64 0, .int .u32 0, .int .u32 0, .int .i64 0, .int .i64 0, .bool false, .int .i64 0, .sl 0 [] .full, .sl 0 [] .full, .bool false, .sl 0 [] .full, .sl 0 [] .full, .int .i64 0]) := by kernel_rfl
@[simp] theorem tz38 : tz Try.prog 38 = some [.int .u32 0, .int .u32 0, .int .i64 0, .int .u32 0, .int .u32 0, .int .i64 0, .int .i64 0, .bool false, .int .i64 0, .sl 0 [] .full, .sl 0 [] .full, .bool false, .sl 0 [] .full, .sl 0 [] .full, .int .i64 0] := by kernel_rfl
@[simp] theorem tk39 : tk Try.prog 39 = some (false, 1) := by kernel_rfl
@[simp] theorem to39 : tok Try.prog 39 = true := by kernel_rfl
@[simp] theorem tz39 : tz Try.prog 39 = some [.nilf] := by kernel_rfl
@[simp] theorem tk40 : tk Try.prog 40 = some (false, 1) := by kernel_rfl
@[simp] theorem to40 : tok Try.prog 40 = true := by kernel_rfl
@[simp] theorem tz40 : tz Try.prog 40 = some [.nilf] := by kernel_rfl
@[simp] theorem tk41 : tk Try.prog 41 = some (false, 1) := by kernel_rfl
@[simp] theorem to41 : tok Try.prog 41 = true := by kernel_rfl
@[simp] theorem tz41 : tz Try.prog 41 = some [.nilf] := by kernel_rfl
@[simp] theorem tk42 : tk Try.prog 42 = some (true, 4) := by kernel_rfl
@[simp] theorem to42 : tok Try.prog 42 = true := by kernel_rfl
@[simp] theorem tf42_0 : tf Try.prog 42 0 = some (0, 1, false) := by kernel_rfl
@[simp] theorem tf42_1 : tf Try.prog 42 1 = some (1, 1, false) := by kernel_rfl
@[simp] theorem tf42_2 : tf Try.prog 42 2 = some (2, 1, false) := by kernel_rfl
@[simp] theorem tf42_3 : tf Try.prog 42 3 = some (3, 1, false) := by kernel_rfl
@[simp] theorem tq42 : feq Try.prog 42 = some [true, true, true, true] := by kernel_rfl
@[simp] theorem tb42 : bplan Try.prog 42 = some ([(0, 1), (1, 1), (2, 1), (3, 1)], [.int .i64 0, .int .u32 0, .int .i64 0, .int .u32 0]) := by kernel_rfl
@[simp] theorem tz42 : tz Try.prog 42 = some [.int .i64 0, .int .u32 0, .int .i64 0, .int .u32 0] := by kernel_rfl
@[simp] theorem tk43 : tk Try.prog 43 = some (true, 4) := by kernel_rfl
@[simp] theorem to43 : tok Try.prog 43 = true := by kernel_rfl
@[simp] theorem tf43_0 : tf Try.prog 43 0 = some (0, 1, false) := by kernel_rfl
@[simp] theorem tf43_1 : tf Try.prog 43 1 = some (1, 1, false) := by kernel_rfl
@[simp] theorem tf43_2 : tf Try.prog 43 2 = some (2, 1, false) := by kernel_rfl
@[simp] theorem tf43_3 : tf Try.prog 43 3 = some (3, 1, false) := by kernel_rfl
@[simp] theorem tq43 : feq Try.prog 43 = some [true, true, true, true] := by kernel_rfl
@[simp] theorem tb43 : bplan Try.prog 43 = some ([(0, 1), (1, 1), (2, 1), (3, 1)], [.int .i64 0, .int .u32 0, .int .i64 0, .int .u32 0]) := by kernel_rfl
@[simp] theorem tz43 : tz Try.prog 43 = some [.int .i64 0, .int .u32 0, .int .i64 0, .int .u32 0] := by kernel_rfl
@[simp] theorem tk45 : tk Try.prog 45 = some (false, 1) := by kernel_rfl
@[simp] theorem to45 : tok Try.prog 45 = true := by kernel_rfl
@[simp] theorem tz45 : tz Try.prog 45 = some [.nilf] := by kernel_rfl
@[simp] theorem tk46 : tk Try.prog 46 = some (false, 1) := by kernel_rfl
@[simp] theorem to46 : tok Try.prog 46 = true := by kernel_rfl
@[simp] theorem tz46 : tz Try.prog 46 = some [.nilf] := by kernel_rfl
@[simp] theorem tk47 : tk Try.prog 47 = some (false, 1) := by kernel_rfl
@[simp] theorem to47 : tok Try.prog 47 = true := by kernel_rfl
@[simp] theorem tz47 : tz Try.prog 47 = some [.nilf] := by kernel_rfl
@[simp] theorem tk48 : tk Try.prog 48 = some (false, 1) := by kernel_rfl
@[simp] theorem to48 : tok Try.prog 48 = true := by kernel_rfl
@[simp] theorem tz48 : tz Try.prog 48 = some [.nilf] := by kernel_rfl
@[simp] theorem tk49 : tk Try.prog 49 = some (false, 1) := by kernel_rfl
@[simp] theorem to49 : tok Try.prog 49 = true := by kernel_rfl
@[simp] theorem tz49 : tz Try.prog 49 = some [.nilf] := by kernel_rfl
@[simp] theorem tk50 : tk Try.prog 50 = some (true, 2) := by kernel_rfl
@[simp] theorem to50 : tok Try.prog 50 = true := by kernel_rfl
@[simp] theorem tf50_0 : tf Try.prog 50 0 = some (0, 1, false) := by kernel_rfl
@[simp] theorem tf50_1 : tf Try.prog 50 1 = some (1, 1, false) := by kernel_rfl
@[simp] theorem tq50 : feq Try.prog 50 = some [true, true] := by kernel_rfl
@[simp] theorem tb50 : bplan Try.prog 50 = some ([(0, 1), (1, 1)], [.int .u32 0, .int .i64 0]) := by kernel_rfl
@[simp] theorem tz50 : tz Try.prog 50 = some [.int .u32 0, .int .i64 0] := by kernel_rfl
@[simp] theorem tk51 : tk Try.prog 51 = some (true, 2) := by kernel_rfl
@[simp] theorem to51 : tok Try.prog 51 = true := by kernel_rfl
@[simp] theorem tf51_0 : tf Try.prog 51 0 = some (0, 1, false) := by kernel_rfl
@[simp] theorem tf51_1 : tf Try.prog 51 1 = some (1, 1, false) := by kernel_rfl
@[simp] theorem tq51 : feq Try.prog 51 = some [true, true] := by kernel_rfl
@[simp] theorem tb51 : bplan Try.prog 51 = some ([(0, 1), (1, 1)], [.int .u32 0, .int .i64 0]) := by kernel_rfl
@[simp] theorem tz51 : tz Try.prog 51 = some [.int .u32 0, .int .i64 0] := by kernel_rfl
@[simp] theorem tk52 : tk Try.prog 52 = some (true, 9) := by kernel_rfl
@[simp] theorem to52 : tok Try.prog 52 = true := by kernel_rfl
@[simp] theorem tf52_0 : tf Try.prog 52 0 = some (0, 1, false) := by kernel_rfl
@[simp] theorem tf52_1 : tf Try.prog 52 1 = some (1, 2, true) := by kernel_rfl
@[simp] theorem tf52_2 : tf Try.prog 52 2 = some (3, 1, false) := by kernel_rfl
@[simp] theorem tf52_3 : tf Try.prog 52 3 = some (4, 1, false) := by kernel_rfl
@[simp] theorem tf52_4 : tf Try.prog 52 4 = some (5, 1, false) := by kernel_rfl
@[simp] theorem tf52_5 : tf Try.prog 52 5 = some (6, 1, false) := by kernel_rfl
@[simp] theorem tf52_6 : tf Try.prog 52 6 = some (7, 1, false) := by kernel_rfl
@[simp] theorem tf52_7 : tf Try.prog 52 7 = some (8, 1, false) := by kernel_rfl
@[simp] theorem tq52 : feq Try.prog 52 = some [true, true, true, true, true, true, true, true, true] := by kernel_rfl
@[simp] theorem tb52 : bplan Try.prog 52 = some ([(0, 1), (1, 2), (3, 1), (4, 1), (5, 1), (6, 1), (7, 1), (8, 1)], [.int .i64 0, .int .u32 0, .int .i64 0, .int .u32 0, .int .u32 0, .int .i64 0, .int .i64 0, .int .i64 0, .int .i64 0]) := by kernel_rfl
@[simp] theorem tz52 : tz Try.prog 52 = some [.int .i64 0, .int .u32 0, .int .i64 0, .int .u32 0, .int .u32 0, .int .i64 0, .int .i64 0, .int .i64 0, .int .i64 0] := by kernel_rfl
@[simp] theorem tk53 : tk Try.prog 53 = some (true, 9) := by kernel_rfl
@[simp] theorem to53 : tok Try.prog 53 = true := by kernel_rfl
@[simp] theorem tf53_0 : tf Try.prog 53 0 = some (0, 1, false) := by kernel_rfl
@[simp] theorem tf53_1 : tf Try.prog 53 1 = some (1, 2, true) := by kernel_rfl
@[simp] theorem tf53_2 : tf Try.prog 53 2 = some (3, 1, false) := by kernel_rfl
@[simp] theorem tf53_3 : tf Try.prog 53 3 = some (4, 1, false) := by kernel_rfl
@[simp] theorem tf53_4 : tf Try.prog 53 4 = some (5, 1, false) := by kernel_rfl
@[simp] theorem tf53_5 : tf Try.prog 53 5 = some (6, 1, false) := by kernel_rfl
@[simp] theorem tf53_6 : tf Try.prog 53 6 = some (7, 1, false) := by kernel_rfl
@[simp] theorem tf53_7 : tf Try.prog 53 7 = some (8, 1, false) := by kernel_rfl
@[simp] theorem tq53 : feq Try.prog 53 = some [true, true, true, true, true, true, true, true, true] := by kernel_rfl
@[simp] theorem tb53 : bplan Try.prog 53 = some ([(0, 1), (1, 2), (3, 1), (4, 1), (5, 1), (6, 1), (7, 1), (8, 1)], [.int .i64 0, .int .u32 0, .int .i64 0, .int .u32 0, .int .u32 0, .int .i64 0, .int .i64 0, .int .i64 0, .int .i64 0]) := by kernel_rfl
@[simp] theorem tz53 : tz Try.prog 53 = some [.int .i64 0, .int .u32 0, .int .i64 0, .int .u32 0, .int .u32 0, .int .i64 0, .int .i64 0, .int .i64 0, .int .i64 0] := by kernel_rfl
@[simp] theorem tk54 : tk Try.prog 54 = some (false, 1) := by kernel_rfl
@[simp] theorem to54 : tok Try.prog 54 = true := by kernel_rfl
@[simp] theorem te54 : te Try.prog 54 = some (15, none) := by kernel_rfl
@[simp] theorem ta54 : tap Try.prog 54 = some (15, 168) := by kernel_rfl
@[simp] theorem tcl54 : tcl Try.prog 54 = some 15 := by kernel_rfl
@[simp] theorem ts54 : tze Try.prog 54 = some [.int .u32 0, .int .u32 0, .int .i64 0, .int .u32 0, .int .u32 0, .int .i64 0, .int .i64 0, .bool false, .int .i64 0, .sl 0 [] .full, .sl 0 [] .full, .bool false, .sl 0 [] .full, .sl 0 [] .full, .int .i64 0] := by kernel_rfl
@[simp] theorem tz54 : tz Try.prog 54 = some [.sl 0 [] .full] := by kernel_rfl
@[simp] theorem tk55 : tk Try.prog 55 = some (true, 15) := by kernel_rfl
@[simp] theorem to55 : tok Try.prog 55 = true := by kernel_rfl
@[simp] theorem tf55_0 : tf Try.prog 55 0 = some (0, 9, true) := by kernel_rfl
@[simp] theorem tf55_1 : tf Try.prog 55 1 = some (9, 1, false) := by kernel_rfl
@[simp] theorem tf55_2 : tf Try.prog 55 2 = some (10, 1, false) := by kernel_rfl
@[simp] theorem tf55_3 : tf Try.prog 55 3 = some (11, 1, false) := by kernel_rfl
@[simp] theorem tf55_4 : tf Try.prog 55 4 = some (12, 1, false) := by kernel_rfl
@[simp] theorem tf55_5 : tf Try.prog 55 5 = some (13, 1, false) := by kernel_rfl
@[simp] theorem tf55_6 : tf Try.prog 55 6 = some (14, 1, false) := by kernel_rfl
@[simp] theorem tb55 : bplan Try.prog 55 = some ([(0, 9), (9, 1), (10, 1), (11, 1), (12, 1), (13, 1), (14, 1)], [.int .i64 0, .int .u32 0, .int .i64 0, .int .u32 0, .int .u32 0, .int .i64 0, .int .i64 0, .int .i64 0, .int .i64 0, .bool false, .int .u32 0, .int .u32 0, .int .i64 0, .int .i64 0, .sl 0 [] .full]) := by kernel_rfl
@[simp] theorem tz55 : tz Try.prog 55 = some [.int .i64 0, .int .u32 0, .int .i64 0, .int .u32 0, .int .u32 0, .int .i64 0, .int .i64 0, .int .i64 0, .int .i64 0, .bool false, .int .u32 0, .int .u32 0, .int .i64 0, .int .i64 0, .sl 0 [] .full] := by kernel_rfl
@[simp] theorem tk56 : tk Try.prog 56 = some (true, 15) := by kernel_rfl
@[simp] theorem to56 : tok Try.prog 56 = true := by kernel_rfl
@[simp] theorem tf56_0 : tf Try.prog 56 0 = some (0, 9, true) := by kernel_rfl
@[simp] theorem tf56_1 : tf Try.prog 56 1 = some (9, 1, false) := by kernel_rfl
@[simp] theorem tf56_2 : tf Try.prog 56 2 = some (10, 1, false) := by kernel_rfl
@[simp] theorem tf56_3 : tf Try.prog 56 3 = some (11, 1, false) := by kernel_rfl
@[simp] theorem tf56_4 : tf Try.prog 56 4 = some (12, 1, false) := by kernel_rfl
@[simp] theorem tf56_5 : tf Try.prog 56 5 = some (13, 1, false) := by kernel_rfl
@[simp] theorem tf56_6 : tf Try.prog 56 6 = some (14, 1, false) := by kernel_rfl
@[simp] theorem tb56 : bplan Try.prog 56 = some ([(0, 9), (9, 1), (10, 1), (11, 1), (12, 1), (13, 1), (14, 1)], [.int .i64 0, .int .u32 0, .int .i64 0, .int .u32 0, .int .u32 0, .int .i64 0, .int .i64 0, .int .i64 0, .int .i64 0, .bool false, .int .u32 0, .int .u32 0, .int .i64 0, .int .i64 0, .sl 0 [] .full]) := by kernel_rfl
@[simp] theorem tz56 : tz Try.prog 56 = some [.int .i64 0, .int .u32 0, .int .i64 0, .int .u32 0, .int .u32 0, .int .i64 0, .int .i64 0, .int .i64 0, .int .i64 0, .bool false, .int .u32 0, .int .u32 0, .int .i64 0, .int .i64 0, .sl 0 [] .full] := by kernel_rfl
@[simp] theorem tk57 : tk Try.prog 57 = some (false, 1) := by kernel_rfl
@[simp] theorem to57 : tok Try.prog 57 = true := by kernel_rfl
@[simp] theorem tz57 : tz Try.prog 57 = some [.nilf] := by kernel_rfl
@[simp] theorem tk58 : tk Try.prog 58 = some (false, 1) := by kernel_rfl
@[simp] theorem to58 : tok Try.prog 58 = true := by kernel_rfl
@[simp] theorem te58 : te Try.prog 58 = some (15, none) := by kernel_rfl
@[simp] theorem ta58 : tap Try.prog 58 = some (15, 136) := by kernel_rfl
@[simp] theorem tcl58 : tcl Try.prog 58 = some 15 := by kernel_rfl
@[simp] theorem ts58 : tze Try.prog 58 = some [.int .i64 0, .int .u32 0, .int .i64 0, .int .u32 0, .int .i64 0, .int .i64 0, .int .i64 0, .bool false, .bool false, .sl 0 [] .full, .sl 0 [] .full, .int .i64 0, .bool false, .int .u32 0, .int .i64 0] := by kernel_rfl
@[simp] theorem tz58 : tz Try.prog 58 = some [.sl 0 [] .full] := by kernel_rfl
@[simp] theorem tk59 : tk Try.prog 59 = some (false, 1) := by kernel_rfl
@[simp] theorem to59 : tok Try.prog 59 = true := by kernel_rfl
@[simp] theorem te59 : te Try.prog 59 = some (4, none) := by kernel_rfl
@[simp] theorem ta59 : tap Try.prog 59 = some (4, 24) := by kernel_rfl
@[simp] theorem tcl59 : tcl Try.prog 59 = some 4 := by kernel_rfl
@[simp] theorem ts59 : tze Try.prog 59 = some [.int .i64 0, .int .u32 0, .int .u32 0, .int .i64 0] := by kernel_rfl
@[simp] theorem tz59 : tz Try.prog 59 = some [.sl 0 [] .full] := by kernel_rfl
@[simp] theorem tk60 : tk Try.prog 60 = some (true, 15) := by kernel_rfl
@[simp] theorem to60 : tok Try.prog 60 = true := by kernel_rfl
@[simp] theorem tf60_0 : tf Try.prog 60 0 = some (0, 7, true) := by kernel_rfl
@[simp] theorem tf60_1 : tf Try.prog 60 1 = some (7, 1, false) := by kernel_rfl
@[simp] theorem tf60_2 : tf Try.prog 60 2 = some (8, 1, false) := by kernel_rfl
@[simp] theorem tf60_3 : tf Try.prog 60 3 = some (9, 1, false) := by kernel_rfl
@[simp] theorem tf60_4 : tf Try.prog 60 4 = some (10, 1, false) := by kernel_rfl
@[simp] theorem tf60_5 : tf Try.prog 60 5 = some (11, 1, false) := by kernel_rfl
@[simp] theorem tf60_6 : tf Try.prog 60 6 = some (12, 1, false) := by kernel_rfl
@[simp] theorem tf60_7 : tf Try.prog 60 7 = some (13, 1, false) := by kernel_rfl
@[simp] theorem tf60_8 : tf Try.prog 60 8 = some (14, 1, false) := by kernel_rfl
@[simp] theorem tb60 : bplan Try.prog 60 = some ([(0, 7), (7, 1), (8, 1), (9, 1), (10, 1), (11, 1), (12, 1), (13, 1), (14, 1)], [.int .i64 0, .int .u32 0, .int .i64 0, .int .u32 0, .int .i64 0, .int .i64 0, .int .i64 0, .bool false, .bool false, .sl 0 [] .full, .sl 0 [] .full, .int .i64 0, .bool false, .int .u32 0, .int .i64 0]) := by kernel_rfl
@[simp] theorem tz60 : tz Try.prog 60 = some [.int .i64 0, .int .u32 0, .int .i64 0, .int .u32 0, .int .i64 0, .int .i64 0, .int .i64 0, .bool false, .bool false, .sl 0 [] .full, .sl 0 [] .full, .int .i64 0, .bool false, .int .u32 0, .int .i64 0] := by kernel_rfl
@[simp] theorem tk61 : tk Try.prog 61 = some (true, 15) := by kernel_rfl
@[simp] theorem to61 : tok Try.prog 61 = true := by kernel_rfl
@[simp] theorem tf61_0 : tf Try.prog 61 0 = some (0, 7, true) := by kernel_rfl
@[simp] theorem tf61_1 : tf Try.prog 61 1 = some (7, 1, false) := by kernel_rfl
@[simp] theorem tf61_2 : tf Try.prog 61 2 = some (8, 1, false) := by kernel_rfl
@[simp] theorem tf61_3 : tf Try.prog 61 3 = some (9, 1, false) := by kernel_rfl
@[simp] theorem tf61_4 : tf Try.prog 61 4 = some (10, 1, false) := by kernel_rfl
@[simp] theorem tf61_5 : tf Try.prog 61 5 = some (11, 1, false) := by kernel_rfl
@[simp] theorem tf61_6 : tf Try.prog 61 6 = some (12, 1, false) := by kernel_rfl
@[simp] theorem tf61_7 : tf Try.prog 61 7 = some (13, 1, false) := by kernel_rfl
@[simp] theorem tf61_8 : tf Try.prog 61 8 = some (14, 1, false) := by kernel_rfl
@[simp] theorem tb61 : bplan Try.prog 61 = some ([(0, 7), (7, 1), (8, 1), (9, 1), (10, 1), (11, 1), (12, 1), (13, 1), (14, 1)], [.int .i64 0, .int .u32 0, .int .i64 0, .int .u32 0, .int .i64 0, .int .i64 0, .int .i64 0, .bool false, .bool false, .sl 0 [] .full, .sl 0 [] .full, .int .i64 0, .bool false, .int .u32 0, .int .i64 0]) := by kernel_rfl
@[simp] theorem tz61 : tz Try.prog 61 = some [.int .i64 0, .int .u32 0, .int .i64 0, .int .u32 0, .int .i64 0, .int .i64 0, .int .i64 0, .bool false, .bool false, .sl 0 [] .full, .sl 0 [] .full, .int .i64 0, .bool false, .int .u32 0, .int .i64 0] := by kernel_rfl
@[simp] theorem tk62 : tk Try.prog 62 = some (false, 1) := by kernel_rfl
@[simp] theorem ti62 : tint Try.prog 62 = some .i64 := by kernel_rfl
@[simp] theorem to62 : tok Try.prog 62 = true := by kernel_rfl
@[simp] theorem tz62 : tz Try.prog 62 = some [.int .i64 0] := by kernel_rfl
@[simp] theorem tk63 : tk Try.prog 63 = some (false, 1) := by kernel_rfl
@[simp] theorem to63 : tok Try.prog 63 = true := by kernel_rfl
@[simp] theorem tz63 : tz Try.prog 63 = some [.nilf] := by kernel_rfl
@[simp] theorem tk65 : tk Try.prog 65 = some (false, 1) := by kernel_rfl
@[simp] theorem to65 : tok Try.prog 65 = true := by kernel_rfl
@[simp] theorem tz65 : tz Try.prog 65 = some [.nilf] := by kernel_rfl
@[simp] theorem tk66 : tk Try.prog 66 = some (false, 1) := by kernel_rfl
@[simp] theorem to66 : tok Try.prog 66 = true := by kernel_rfl
@[simp] theorem tz66 : tz Try.prog 66 = some [.nilf] := by kernel_rfl
@[simp] theorem tk67 : tk Try.prog 67 = some (false, 1) := by kernel_rfl
@[simp] theorem to67 : tok Try.prog 67 = true := by kernel_rfl
@[simp] theorem te67 : te Try.prog 67 = some (3, none) := by kernel_rfl
@[simp] theorem ta67 : tap Try.prog 67 = some (3, 24) := by kernel_rfl
@[simp] theorem tcl67 : tcl Try.prog 67 = some 3 := by kernel_rfl
@[simp] theorem ts67 : tze Try.prog 67 = some [.int .i64 0, .int .i64 0, .int .i64 0] := by kernel_rfl
@[simp] theorem tz67 : tz Try.prog 67 = some [.sl 0 [] .full] := by kernel_rfl
@[simp] theorem tk68 : tk Try.prog 68 = some (true, 3) := by kernel_rfl
@[simp] theorem to68 : tok Try.prog 68 = true := by kernel_rfl
@[simp] theorem tf68_0 : tf Try.prog 68 0 = some (0, 1, false) := by kernel_rfl
@[simp] theorem tf68_1 : tf Try.prog 68 1 = some (1, 1, false) := by kernel_rfl
@[simp] theorem tf68_2 : tf Try.prog 68 2 = some (2, 1, false) := by kernel_rfl
@[simp] theorem tb68 : bplan Try.prog 68 = some ([(0, 1), (1, 1), (2, 1)], [.int .i64 0, .int .i64 0, .sl 0 [] .full]) := by kernel_rfl
@[simp] theorem tz68 : tz Try.prog 68 = some [.int .i64 0, .int .i64 0, .sl 0 [] .full] := by kernel_rfl
@[simp] theorem tk69 : tk Try.prog 69 = some (true, 3) := by kernel_rfl
@[simp] theorem to69 : tok Try.prog 69 = true := by kernel_rfl
@[simp] theorem tf69_0 : tf Try.prog 69 0 = some (0, 1, false) := by kernel_rfl
@[simp] theorem tf69_1 : tf Try.prog 69 1 = some (1, 1, false) := by kernel_rfl
@[simp] theorem tf69_2 : tf Try.prog 69 2 = some (2, 1, false) := by kernel_rfl
@[simp] theorem tb69 : bplan Try.prog 69 = some ([(0, 1), (1, 1), (2, 1)], [.int .i64 0, .int .i64 0, .sl 0 [] .full]) := by kernel_rfl
@[simp] theorem tz69 : tz Try.prog 69 = some [.int .i64 0, .int .i64 0, .sl 0 [] .full] := by kernel_rfl
@[simp] theorem tk71 : tk Try.prog 71 = some (false, 1) := by kernel_rfl
@[simp] theorem to71 : tok Try.prog 71 = true := by kernel_rfl
@[simp] theorem tz71 : tz Try.prog 71 = some [.nilf] := by kernel_rfl
@[simp] theorem tk72 : tk Try.prog 72 = some (false, 1) := by kernel_rfl
@[simp] theorem to72 : tok Try.prog 72 = true := by kernel_rfl
@[simp] theorem tz72 : tz Try.prog 72 = some [.nilf] := by kernel_rfl
@[simp] theorem tk73 : tk Try.prog 73 = some (false, 1) := by kernel_rfl
@[simp] theorem to73 : tok Try.prog 73 = true := by kernel_rfl
@[simp] theorem te73 : te Try.prog 73 = some (2, none) := by kernel_rfl
@[simp] theorem ta73 : tap Try.prog 73 = some (2, 48) := by kernel_rfl
@[simp] theorem tcl73 : tcl Try.prog 73 = some 2 := by kernel_rfl
@[simp] theorem ts73 : tze Try.prog 73 = some [.sl 0 [] .full, .sl 0 [] .full] := by kernel_rfl
@[simp] theorem tz73 : tz Try.prog 73 = some [.sl 0 [] .full] := by kernel_rfl
@[simp] theorem tk74 : tk Try.prog 74 = some (true, 3) := by kernel_rfl
@[simp] theorem to74 : tok Try.prog 74 = true := by kernel_rfl
@[simp] theorem tf74_0 : tf Try.prog 74 0 = some (0, 1, false) := by kernel_rfl
@[simp] theorem tf74_1 : tf Try.prog 74 1 = some (1, 1, false) := by kernel_rfl
@[simp] theorem tf74_2 : tf Try.prog 74 2 = some (2, 1, false) := by kernel_rfl
@[simp] theorem tq74 : feq Try.prog 74 = some [true, true, true] := by kernel_rfl
@[simp] theorem tb74 : bplan Try.prog 74 = some ([(0, 1), (1, 1), (2, 1)], [.int .i64 0, .int .i64 0, .int .i64 0]) := by kernel_rfl
@[simp] theorem tz74 : tz Try.prog 74 = some [.int .i64 0, .int .i64 0, .int .i64 0] := by kernel_rfl
@[simp] theorem tk75 : tk Try.prog 75 = some (true, 3) := by kernel_rfl
@[simp] theorem to75 : tok Try.prog 75 = true := by kernel_rfl
@[simp] theorem tf75_0 : tf Try.prog 75 0 = some (0, 1, false) := by kernel_rfl
@[simp] theorem tf75_1 : tf Try.prog 75 1 = some (1, 1, false) := by kernel_rfl
@[simp] theorem tf75_2 : tf Try.prog 75 2 = some (2, 1, false) := by kernel_rfl
@[simp] theorem tq75 : feq Try.prog 75 = some [true, true, true] := by kernel_rfl
@[simp] theorem tb75 : bplan Try.prog 75 = some ([(0, 1), (1, 1), (2, 1)], [.int .i64 0, .int .i64 0, .int .i64 0]) := by kernel_rfl
@[simp] theorem tz75 : tz Try.prog 75 = some [.int .i64 0, .int .i64 0, .int .i64 0] := by kernel_rfl
@[simp] theorem tk77 : tk Try.prog 77 = some (false, 1) := by kernel_rfl
@[simp] theorem to77 : tok Try.prog 77 = true := by kernel_rfl
@[simp] theorem tz77 : tz Try.prog 77 = some [.nilf] := by kernel_rfl
@[simp] theorem tk78 : tk Try.prog 78 = some (true, 2) := by kernel_rfl
@[simp] theorem to78 : tok Try.prog 78 = true := by kernel_rfl
@[simp] theorem tf78_0 : tf Try.prog 78 0 = some (0, 1, false) := by kernel_rfl
@[simp] theorem tf78_1 : tf Try.prog 78 1 = some (1, 1, false) := by kernel_rfl
@[simp] theorem tb78 : bplan Try.prog 78 = some ([(0, 1), (1, 1)], [.sl 0 [] .full, .sl 0 [] .full]) := by kernel_rfl
@[simp] theorem tz78 : tz Try.prog 78 = some [.sl 0 [] .full, .sl 0 [] .full] := by kernel_rfl
@[simp] theorem tk79 : tk Try.prog 79 = some (true, 2) := by kernel_rfl
@[simp] theorem to79 : tok Try.prog 79 = true := by kernel_rfl
@[simp] theorem tf79_0 : tf Try.prog 79 0 = some (0, 1, false) := by kernel_rfl
@[simp] theorem tf79_1 : tf Try.prog 79 1 = some (1, 1, false) := by kernel_rfl
@[simp] theorem tb79 : bplan Try.prog 79 = some ([(0, 1), (1, 1)], [.sl 0 [] .full, .sl 0 [] .full]) := by kernel_rfl
@[simp] theorem tz79 : tz Try.prog 79 = some [.sl 0 [] .full, .sl 0 [] .full] := by kernel_rfl
@[simp] theorem tk80 : tk Try.prog 80 = some (false, 1) := by kernel_rfl
@[simp] theorem to80 : tok Try.prog 80 = true := by kernel_rfl
@[simp] theorem tz80 : tz Try.prog 80 = some [.nilf] := by kernel_rfl
@[simp] theorem tk81 : tk Try.prog 81 = some (false, 1) := by kernel_rfl
@[simp] theorem to81 : tok Try.prog 81 = true := by kernel_rfl
@[simp] theorem te81 : te Try.prog 81 = some (17, none) := by kernel_rfl
@[simp] theorem ta81 : tap Try.prog 81 = some (17, 152) := by kernel_rfl
@[simp] theorem tcl81 : tcl Try.prog 81 = some 17 := by kernel_rfl
@[simp] theorem ts81 : tze Try.prog 81 = some [.int .i64 0, .int .u32 0, .int .i64 0, .int .u32 0, .int .i64 0, .int .u32 0, .int .i64 0, .int .i64 0, .int .i64 0, .bool false, .bool false, .sl 0 [] .full, .sl 0 [] .full, .int .i64 0, .bool false, .int .u32 0, .int .i64 0] := by kernel_rfl
@[simp] theorem tz81 : tz Try.prog 81 = some [.sl 0 [] .full] := by kernel_rfl
@[simp] theorem tk82 : tk Try.prog 82 = some (false, 1) := by kernel_rfl
@[simp] theorem to82 : tok Try.prog 82 = true := by kernel_rfl
@[simp] theorem tz82 : tz Try.prog 82 = some [.nilf] := by kernel_rfl
@[simp] theorem tk83 : tk Try.prog 83 = some (true, 17) := by kernel_rfl
@[simp] theorem to83 : tok Try.prog 83 = true := by kernel_rfl
@[simp] theorem tf83_0 : tf Try.prog 83 0 = some (0, 1, false) := by kernel_rfl
@[simp] theorem tf83_1 : tf Try.prog 83 1 = some (1, 1, false) := by kernel_rfl
@[simp] theorem tf83_2 : tf Try.prog 83 2 = some (2, 15, true) := by kernel_rfl
@[simp] theorem tb83 : bplan Try.prog 83 = some ([(0, 1), (1, 1), (2, 15)], [.int .i64 0, .int .u32 0, .int .i64 0, .int .u32 0, .int .i64 0, .int .u32 0, .int .i64 0, .int .i64 0, .int .i64 0, .bool false, .bool false, .sl 0 [] .full, .sl 0 [] .full, .int .i64 0, .bool false, .int .u32 0, .int .i64 0]) := by kernel_rfl
@[simp] theorem tz83 : tz Try.prog 83 = some [.int .i64 0, .int .u32 0, .int .i64 0, .int .u32 0, .int .i64 0, .int .u32 0, .int .i64 0, .int .i64 0, .int .i64 0, .bool false, .bool false, .sl 0 [] .full, .sl 0 [] .full, .int .i64 0, .bool false, .int .u32 0, .int .i64 0] := by kernel_rfl
@[simp] theorem tk84 : tk Try.prog 84 = some (true, 17) := by kernel_rfl
@[simp] theorem to84 : tok Try.prog 84 = true := by kernel_rfl
@[simp] theorem tf84_0 : tf Try.prog 84 0 = some (0, 1, false) := by kernel_rfl
@[simp] theorem tf84_1 : tf Try.prog 84 1 = some (1, 1, false) := by kernel_rfl
@[simp] theorem tf84_2 : tf Try.prog 84 2 = some (2, 15, true) := by kernel_rfl
@[simp] theorem tb84 : bplan Try.prog 84 = some ([(0, 1), (1, 1), (2, 15)], [.int .i64 0, .int .u32 0, .int .i64 0, .int .u32 0, .int .i64 0, .int .u32 0, .int .i64 0, .int .i64 0, .int .i64 0, .bool false, .bool false, .sl 0 [] .full, .sl 0 [] .full, .int .i64 0, .bool false, .int .u32 0, .int .i64 0]) := by kernel_rfl
@[simp] theorem tz84 : tz Try.prog 84 = some [.int .i64 0, .int .u32 0, .int .i64 0, .int .u32 0, .int .i64 0, .int .u32 0, .int .i64 0, .int .i64 0, .int .i64 0, .bool false, .bool false, .sl 0 [] .full, .sl 0 [] .full, .int .i64 0, .bool false, .int .u32 0, .int .i64 0] := by kernel_rfl
@[simp] theorem tk85 : tk Try.prog 85 = some (false, 1) := by kernel_rfl
@[simp] theorem to85 : tok Try.prog 85 = true := by kernel_rfl
@[simp] theorem tz85 : tz Try.prog 85 = some [.nilf] := by kernel_rfl
@[simp] theorem tk86 : tk Try.prog 86 = some (false, 1) := by kernel_rfl
@[simp] theorem to86 : tok Try.prog 86 = true := by kernel_rfl
@[simp] theorem te86 : te Try.prog 86 = some (1, none) := by kernel_rfl
@[simp] theorem ta86 : tap Try.prog 86 = some (1, 1) := by kernel_rfl
@[simp] theorem tcl86 : tcl Try.prog 86 = some 1 := by kernel_rfl
@[simp] theorem ts86 : tze Try.prog 86 = some [.bool false] := by kernel_rfl
@[simp] theorem tz86 : tz Try.prog 86 = some [.sl 0 [] .full] := by kernel_rfl
@[simp] theorem tk87 : tk Try.prog 87 = some (false, 1) := by kernel_rfl
@[simp] theorem to87 : tok Try.prog 87 = true := by kernel_rfl
@[simp] theorem tz87 : tz Try.prog 87 = some [.nilf] := by kernel_rfl
@[simp] theorem tk88 : tk Try.prog 88 = some (false, 1) := by kernel_rfl
@[simp] theorem to88 : tok Try.prog 88 = true := by kernel_rfl
@[simp] theorem tz88 : tz Try.prog 88 = some [.nilf] := by kernel_rfl
@[simp] theorem tk89 : tk Try.prog 89 = some (false, 1) := by kernel_rfl
@[simp] theorem to89 : tok Try.prog 89 = true := by kernel_rfl
@[simp] theorem tz89 : tz Try.prog 89 = some [.nilf] := by kernel_rfl
@[simp] theorem tk90 : tk Try.prog 90 = some (false, 1) := by kernel_rfl
@[simp] theorem to90 : tok Try.prog 90 = true := by kernel_rfl
@[simp] theorem tz90 : tz Try.prog 90 = some [.nilf] := by kernel_rfl
@[simp] theorem tk91 : tk Try.prog 91 = some (false, 1) := by kernel_rfl
@[simp] theorem to91 : tok Try.prog 91 = true := by kernel_rfl
@[simp] theorem tz91 : tz Try.prog 91 = some [.nilf] := by kernel_rfl
@[simp] theorem tk92 : tk Try.prog 92 = some (false, 1) := by kernel_rfl
@[simp] theorem to92 : tok Try.prog 92 = true := by kernel_rfl
@[simp] theorem tz92 : tz Try.prog 92 = some [.nilp] := by kernel_rfl
@[simp] theorem tk93 : tk Try.prog 93 = some (false, 1) := by kernel_rfl
@[simp] theorem to93 : tok Try.prog 93 = true := by kernel_rfl
@[simp] theorem tz93 : tz Try.prog 93 = some [.nilf] := by kernel_rfl
@[simp] theorem tk94 : tk Try.prog 94 = some (false, 1) := by kernel_rfl
@[simp] theorem to94 : tok Try.prog 94 = true := by kernel_rfl
@[simp] theorem tz94 : tz Try.prog 94 = some [.nilf] := by kernel_rfl
@[simp] theorem tk95 : tk Try.prog 95 = some (false, 1) := by kernel_rfl
@[simp] theorem to95 : tok Try.prog 95 = true := by kernel_rfl
@[simp] theorem tz95 : tz Try.prog 95 = some [.nilf] := by kernel_rfl
@[simp] theorem tk96 : tk Try.prog 96 = some (false, 1) := by kernel_rfl
@[simp] theorem to96 : tok Try.prog 96 = true := by kernel_rfl
@[simp] theorem tz96 : tz Try.prog 96 = some [.nilf] := by kernel_rfl
@[simp] theorem tk97 : tk Try.prog 97 = some (false, 1) := by kernel_rfl
@[simp] theorem to97 : tok Try.prog 97 = true := by kernel_rfl
@[simp] theorem tz97 : tz Try.prog 97 = some [.nilp] := by kernel_rfl
@[simp] theorem tk98 : tk Try.prog 98 = some (false, 1) := by kernel_rfl
@[simp] theorem to98 : tok Try.prog 98 = true := by kernel_rfl
@[simp] theorem tz98 : tz Try.prog 98 = some [.nilf] := by kernel_rfl
@[simp] theorem tk99 : tk Try.prog 99 = some (false, 1) := by kernel_rfl
@[simp] theorem to99 : tok Try.prog 99 = true := by kernel_rfl
@[simp] theorem tz99 : tz Try.prog 99 = some [.nilf] := by kernel_rfl
@[simp] theorem tk100 : tk Try.prog 100 = some (false, 1) := by kernel_rfl
@[simp] theorem to100 : tok Try.prog 100 = true := by kernel_rfl
@[simp] theorem tz100 : tz Try.prog 100 = some [.nilf] := by kernel_rfl
@[simp] theorem tk101 : tk Try.prog 101 = some (false, 1) := by kernel_rfl
@[simp] theorem to101 : tok Try.prog 101 = true := by kernel_rfl
@[simp] theorem tz101 : tz Try.prog 101 = some [.nilf] := by kernel_rfl
@[simp] theorem tk102 : tk Try.prog 102 = some (false, 1) := by kernel_rfl
@[simp] theorem to102 : tok Try.prog 102 = true := by kernel_rfl
@[simp] theorem tz102 : tz Try.prog 102 = some [.nilf] := by kernel_rfl
@[simp] theorem tk103 : tk Try.prog 103 = some (false, 1) := by kernel_rfl
@[simp] theorem to103 : tok Try.prog 103 = true := by kernel_rfl
@[simp] theorem tz103 : tz Try.prog 103 = some [.nilf] := by kernel_rfl
@[simp] theorem tk105 : tk Try.prog 105 = some (false, 1) := by kernel_rfl
@[simp] theorem to105 : tok Try.prog 105 = true := by kernel_rfl
@[simp] theorem tz105 : tz Try.prog 105 = some [.nilf] := by kernel_rfl
@[simp] theorem tk106 : tk Try.prog 106 = some (false, 1) := by kernel_rfl
@[simp] theorem to106 : tok Try.prog 106 = true := by kernel_rfl
@[simp] theorem tz106 : tz Try.prog 106 = some [.nilf] := by kernel_rfl
@[simp] theorem tk107 : tk Try.prog 107 = some (false, 1) := by kernel_rfl
@[simp] theorem to107 : tok Try.prog 107 = true := by kernel_rfl
@[simp] theorem tz107 : tz Try.prog 107 = some [.nilf] := by kernel_rfl
@[simp] theorem tk108 : tk Try.prog 108 = some (false, 1) := by kernel_rfl
@[simp] theorem to108 : tok Try.prog 108 = true := by kernel_rfl
@[simp] theorem tz108 : tz Try.prog 108 = some [.nilf] := by kernel_rfl
@[simp] theorem tk109 : tk Try.prog 109 = some (false, 1) := by kernel_rfl
@[simp] theorem to109 : tok Try.prog 109 = true := by kernel_rfl
@[simp] theorem tz109 : tz Try.prog 109 = some [.nilf] := by kernel_rfl
@[simp] theorem tk110 : tk Try.prog 110 = some (false, 1) := by kernel_rfl
@[simp] theorem to110 : tok Try.prog 110 = true := by kernel_rfl
@[simp] theorem tz110 : tz Try.prog 110 = some [.nilf] := by kernel_rfl
@[simp] theorem tk111 : tk Try.prog 111 = some (false, 1) := by kernel_rfl
@[simp] theorem to111 : tok Try.prog 111 = true := by kernel_rfl
@[simp] theorem tz111 : tz Try.prog 111 = some [.nilf] := by kernel_rfl
@[simp] theorem tk112 : tk Try.prog 112 = some (false, 1) := by kernel_rfl
@[simp] theorem to112 : tok Try.prog 112 = true := by kernel_rfl
@[simp] theorem tz112 : tz Try.prog 112 = some [.nilf] := by kernel_rfl
@[simp] theorem tk113 : tk Try.prog 113 = some (false, 1) := by kernel_rfl
@[simp] theorem to113 : tok Try.prog 113 = true := by kernel_rfl
@[simp] theorem tz113 : tz Try.prog 113 = some [.nilf] := by kernel_rfl
@[simp] theorem tk114 : tk Try.prog 114 = some (false, 1) := by kernel_rfl
@[simp] theorem to114 : tok Try.prog 114 = true := by kernel_rfl
@[simp] theorem tz114 : tz Try.prog 114 = some [.nilf] := by kernel_rfl
@[simp] theorem tk115 : tk Try.prog 115 = some (false, 1) := by kernel_rfl
@[simp] theorem to115 : tok Try.prog 115 = true := by kernel_rfl
@[simp] theorem tz115 : tz Try.prog 115 = some [.nilf] := by kernel_rfl
@[simp] theorem tk117 : tk Try.prog 117 = some (false, 1) := by kernel_rfl
@[simp] theorem to117 : tok Try.prog 117 = true := by kernel_rfl
@[simp] theorem tz117 : tz Try.prog 117 = some [.nilf] := by kernel_rfl
@[simp] theorem tk118 : tk Try.prog 118 = some (false, 1) := by kernel_rfl
@[simp] theorem to118 : tok Try.prog 118 = true := by kernel_rfl
@[simp] theorem tz118 : tz Try.prog 118 = some [.nilf] := by kernel_rfl
@[simp] theorem tk119 : tk Try.prog 119 = some (false, 1) := by kernel_rfl
@[simp] theorem to119 : tok Try.prog 119 = true := by kernel_rfl
@[simp] theorem tz119 : tz Try.prog 119 = some [.nilf] := by kernel_rfl
@[simp] theorem tk120 : tk Try.prog 120 = some (false, 1) := by kernel_rfl
@[simp] theorem to120 : tok Try.prog 120 = true := by kernel_rfl
@[simp] theorem tz120 : tz Try.prog 120 = some [.nilf] := by kernel_rfl
@[simp] theorem tk121 : tk Try.prog 121 = some (false, 1) := by kernel_rfl
@[simp] theorem to121 : tok Try.prog 121 = true := by kernel_rfl
@[simp] theorem tz121 : tz Try.prog 121 = some [.nilf] := by kernel_rfl
@[simp] theorem tk122 : tk Try.prog 122 = some (false, 1) := by kernel_rfl
@[simp] theorem to122 : tok Try.prog 122 = true := by kernel_rfl
@[simp] theorem tz122 : tz Try.prog 122 = some [.nilf] := by kernel_rfl
@[simp] theorem tk123 : tk Try.prog 123 = some (false, 1) := by kernel_rfl
@[simp] theorem to123 : tok Try.prog 123 = true := by kernel_rfl
@[simp] theorem tz123 : tz Try.prog 123 = some [.nilf] := by kernel_rfl
@[simp] theorem tk124 : tk Try.prog 124 = some (false, 1) := by kernel_rfl
@[simp] theorem to124 : tok Try.prog 124 = true := by kernel_rfl
@[simp] theorem tz124 : tz Try.prog 124 = some [.nilf] := by kernel_rfl
@[simp] theorem tk125 : tk Try.prog 125 = some (false, 1) := by kernel_rfl
@[simp] theorem to125 : tok Try.prog 125 = true := by kernel_rfl
@[simp] theorem tz125 : tz Try.prog 125 = some [.nilf] := by kernel_rfl
@[simp] theorem tk126 : tk Try.prog 126 = some (false, 1) := by kernel_rfl
@[simp] theorem to126 : tok Try.prog 126 = true := by kernel_rfl
@[simp] theorem tz126 : tz Try.prog 126 = some [.nilf] := by kernel_rfl
@[simp] theorem tk127 : tk Try.prog 127 = some (false, 1) := by kernel_rfl
@[simp] theorem to127 : tok Try.prog 127 = true := by kernel_rfl
@[simp] theorem tz127 : tz Try.prog 127 = some [.nilf] := by kernel_rfl
@[simp] theorem tk128 : tk Try.prog 128 = some (false, 1) := by kernel_rfl
@[simp] theorem to128 : tok Try.prog 128 = true := by kernel_rfl
@[simp] theorem tz128 : tz Try.prog 128 = some [.nilf] := by kernel_rfl
@[simp] theorem tk129 : tk Try.prog 129 = some (false, 1) := by kernel_rfl
@[simp] theorem to129 : tok Try.prog 129 = true := by kernel_rfl
@[simp] theorem tz129 : tz Try.prog 129 = some [.nilf] := by kernel_rfl
@[simp] theorem tk130 : tk Try.prog 130 = some (false, 1) := by kernel_rfl
@[simp] theorem to130 : tok Try.prog 130 = true := by kernel_rfl
@[simp] theorem tz130 : tz Try.prog 130 = some [.nilf] := by kernel_rfl
@[simp] theorem tk131 : tk Try.prog 131 = some (false, 1) := by kernel_rfl
@[simp] theorem ti131 : tint Try.prog 131 = some .u64 := by kernel_rfl
@[simp] theorem to131 : tok Try.prog 131 = true := by kernel_rfl
@[simp] theorem tz131 : tz Try.prog 131 = some [.int .u64 0] := by kernel_rfl
@[simp] theorem tk132 : tk Try.prog 132 = some (false, 1) := by kernel_rfl
@[simp] theorem to132 : tok Try.prog 132 = true := by kernel_rfl
@[simp] theorem tz132 : tz Try.prog 132 = some [.nilf] := by kernel_rfl
@[simp] theorem tk133 : tk Try.prog 133 = some (false, 1) := by kernel_rfl
@[simp] theorem to133 : tok Try.prog 133 = true := by kernel_rfl
@[simp] theorem tz133 : tz Try.prog 133 = some [.nilf] := by kernel_rfl
@[simp] theorem tk134 : tk Try.prog 134 = some (false, 1) := by kernel_rfl
@[simp] theorem to134 : tok Try.prog 134 = true := by kernel_rfl
@[simp] theorem tz134 : tz Try.prog 134 = some [.nilf] := by kernel_rfl
@[simp] theorem tk135 : tk Try.prog 135 = some (false, 1) := by kernel_rfl
@[simp] theorem to135 : tok Try.prog 135 = true := by kernel_rfl
@[simp] theorem tz135 : tz Try.prog 135 = some [.nilf] := by kernel_rfl
@[simp] theorem tk136 : tk Try.prog 136 = some (false, 1) := by kernel_rfl
@[simp] theorem to136 : tok Try.prog 136 = true := by kernel_rfl
@[simp] theorem tz136 : tz Try.prog 136 = some [.nilf] := by kernel_rfl
@[simp] theorem tk137 : tk Try.prog 137 = some (false, 1) := by kernel_rfl
@[simp] theorem to137 : tok Try.prog 137 = true := by kernel_rfl
@[simp] theorem tz137 : tz Try.prog 137 = some [.nilf] := by kernel_rfl
@[simp] theorem tk138 : tk Try.prog 138 = some (false, 1) := by kernel_rfl
@[simp] theorem ti138 : tint Try.prog 138 = some .u64 := by kernel_rfl
@[simp] theorem to138 : tok Try.prog 138 = true := by kernel_rfl
@[simp] theorem tz138 : tz Try.prog 138 = some [.int .u64 0] := by kernel_rfl
@[simp] theorem tk139 : tk Try.prog 139 = some (false, 1) := by kernel_rfl
@[simp] theorem to139 : tok Try.prog 139 = true := by kernel_rfl
@[simp] theorem tz139 : tz Try.prog 139 = some [.nilf] := by kernel_rfl
@[simp] theorem tk140 : tk Try.prog 140 = some (false, 1) := by kernel_rfl
@[simp] theorem to140 : tok Try.prog 140 = true := by kernel_rfl
@[simp] theorem tz140 : tz Try.prog 140 = some [.nilf] := by kernel_rfl
@[simp] theorem tk141 : tk Try.prog 141 = some (false, 1) := by kernel_rfl
@[simp] theorem to141 : tok Try.prog 141 = true := by kernel_rfl
@[simp] theorem tz141 : tz Try.prog 141 = some [.nilf] := by kernel_rfl
@[simp] theorem tk142 : tk Try.prog 142 = some (true, 4) := by kernel_rfl
@[simp] theorem to142 : tok Try.prog 142 = true := by kernel_rfl
@[simp] theorem tf142_0 : tf Try.prog 142 0 = some (0, 4, true) := by kernel_rfl
@[simp] theorem tq142 : feq Try.prog 142 = some [true, true, true, true] := by kernel_rfl
@[simp] theorem tb142 : bplan Try.prog 142 = some ([(0, 4)], [.int .i64 0, .int .u32 0, .int .i64 0, .int .u32 0]) := by kernel_rfl
@[simp] theorem tz142 : tz Try.prog 142 = some [.int .i64 0, .int .u32 0, .int .i64 0, .int .u32 0] := by kernel_rfl
@[simp] theorem tk143 : tk Try.prog 143 = some (true, 4) := by kernel_rfl
@[simp] theorem to143 : tok Try.prog 143 = true := by kernel_rfl
@[simp] theorem tf143_0 : tf Try.prog 143 0 = some (0, 4, true) := by kernel_rfl
@[simp] theorem tq143 : feq Try.prog 143 = some [true, true, true, true] := by kernel_rfl
@[simp] theorem tb143 : bplan Try.prog 143 = some ([(0, 4)], [.int .i64 0, .int .u32 0, .int .i64 0, .int .u32 0]) := by kernel_rfl
@[simp] theorem tz143 : tz Try.prog 143 = some [.int .i64 0, .int .u32 0, .int .i64 0, .int .u32 0] := by kernel_rfl
@[simp] theorem tk144 : tk Try.prog 144 = some (false, 1) := by kernel_rfl
@[simp] theorem to144 : tok Try.prog 144 = true := by kernel_rfl
@[simp] theorem tz144 : tz Try.prog 144 = some [.nilf] := by kernel_rfl
@[simp] theorem tk145 : tk Try.prog 145 = some (false, 1) := by kernel_rfl
@[simp] theorem to145 : tok Try.prog 145 = true := by kernel_rfl
@[simp] theorem tz145 : tz Try.prog 145 = some [.nilf] := by kernel_rfl
@[simp] theorem tk146 : tk Try.prog 146 = some (false, 1) := by kernel_rfl
@[simp] theorem to146 : tok Try.prog 146 = true := by kernel_rfl
@[simp] theorem tz146 : tz Try.prog 146 = some [.nilf] := by kernel_rfl
@[simp] theorem tk147 : tk Try.prog 147 = some (false, 1) := by kernel_rfl
@[simp] theorem to147 : tok Try.prog 147 = true := by kernel_rfl
@[simp] theorem te147 : te Try.prog 147 = some (1, none) := by kernel_rfl
@[simp] theorem ta147 : tap Try.prog 147 = some (1, 1) := by kernel_rfl
@[simp] theorem tcl147 : tcl Try.prog 147 = some 1 := by kernel_rfl
@[simp] theorem ts147 : tze Try.prog 147 = some [.int .u8 0] := by kernel_rfl
@[simp] theorem tz147 : tz Try.prog 147 = some [.sl 0 [] .full] := by kernel_rfl
@[simp] theorem tk148 : tk Try.prog 148 = some (false, 1) := by kernel_rfl
@[simp] theorem to148 : tok Try.prog 148 = true := by kernel_rfl
@[simp] theorem tz148 : tz Try.prog 148 = some [.nilf] := by kernel_rfl
@[simp] theorem tk149 : tk Try.prog 149 = some (false, 1) := by kernel_rfl
@[simp] theorem to149 : tok Try.prog 149 = true := by kernel_rfl
@[simp] theorem tz149 : tz Try.prog 149 = some [.nilf] := by kernel_rfl
@[simp] theorem tk150 : tk Try.prog 150 = some (false, 1) := by kernel_rfl
@[simp] theorem to150 : tok Try.prog 150 = true := by kernel_rfl
@[simp] theorem tz150 : tz Try.prog 150 = some [.nilf] := by kernel_rfl
@[simp] theorem tk151 : tk Try.prog 151 = some (false, 1) := by kernel_rfl
@[simp] theorem to151 : tok Try.prog 151 = true := by kernel_rfl
@[simp] theorem tz151 : tz Try.prog 151 = some [.nilf] := by kernel_rfl
@[simp] theorem tk152 : tk Try.prog 152 = some (false, 1) := by kernel_rfl
@[simp] theorem to152 : tok Try.prog 152 = true := by kernel_rfl
@[simp] theorem tz152 : tz Try.prog 152 = some [.nilf] := by kernel_rfl
@[simp] theorem tk153 : tk Try.prog 153 = some (false, 1) := by kernel_rfl
@[simp] theorem to153 : tok Try.prog 153 = true := by kernel_rfl
@[simp] theorem tz153 : tz Try.prog 153 = some [.nilf] := by kernel_rfl
@[simp] theorem tk154 : tk Try.prog 154 = some (true, 4) := by kernel_rfl
@[simp] theorem to154 : tok Try.prog 154 = true := by kernel_rfl
@[simp] theorem tf154_0 : tf Try.prog 154 0 = some (0, 1, false) := by kernel_rfl
@[simp] theorem tf154_1 : tf Try.prog 154 1 = some (1, 1, false) := by kernel_rfl
@[simp] theorem tf154_2 : tf Try.prog 154 2 = some (2, 1, false) := by kernel_rfl
@[simp] theorem tf154_3 : tf Try.prog 154 3 = some (3, 1, false) := by kernel_rfl
@[simp] theorem tq154 : feq Try.prog 154 = some [true, true, true, true] := by kernel_rfl
@[simp] theorem tb154 : bplan Try.prog 154 = some ([(0, 1), (1, 1), (2, 1), (3, 1)], [.int .i64 0, .int .u32 0, .int .u32 0, .int .i64 0]) := by kernel_rfl
@[simp] theorem tz154 : tz Try.prog 154 = some [.int .i64 0, .int .u32 0, .int .u32 0, .int .i64 0] := by kernel_rfl
@[simp] theorem tk155 : tk Try.prog 155 = some (true, 4) := by kernel_rfl
@[simp] theorem to155 : tok Try.prog 155 = true := by kernel_rfl
@[simp] theorem tf155_0 : tf Try.prog 155 0 = some (0, 1, false) := by kernel_rfl
@[simp] theorem tf155_1 : tf Try.prog 155 1 = some (1, 1, false) := by kernel_rfl
@[simp] theorem tf155_2 : tf Try.prog 155 2 = some (2, 1, false) := by kernel_rfl
@[simp] theorem tf155_3 : tf Try.prog 155 3 = some (3, 1, false) := by kernel_rfl
@[simp] theorem tq155 : feq Try.prog 155 = some [true, true, true, true] := by kernel_rfl
@[simp] theorem tb155 : bplan Try.prog 155 = some ([(0, 1), (1, 1), (2, 1), (3, 1)], [.int .i64 0, .int .u32 0, .int .u32 0, .int .i64 0]) := by kernel_rfl
@[simp] theorem tz155 : tz Try.prog 155 = some [.int .i64 0, .int .u32 0, .int .u32 0, .int .i64 0] := by kernel_rfl
@[simp] theorem tk156 : tk Try.prog 156 = some (false, 1) := by kernel_rfl
@[simp] theorem to156 : tok Try.prog 156 = true := by kernel_rfl
@[simp] theorem tz156 : tz Try.prog 156 = some [.nilf] := by kernel_rfl
@[simp] theorem tk157 : tk Try.prog 157 = some (false, 1) := by kernel_rfl
@[simp] theorem to157 : tok Try.prog 157 = true := by kernel_rfl
@[simp] theorem tz157 : tz Try.prog 157 = some [.nilf] := by kernel_rfl
@[simp] theorem tk158 : tk Try.prog 158 = some (false, 1) := by kernel_rfl
@[simp] theorem to158 : tok Try.prog 158 = true := by kernel_rfl
@[simp] theorem tz158 : tz Try.prog 158 = some [.nilf] := by kernel_rfl
@[simp] theorem tk160 : tk Try.prog 160 = some (false, 1) := by kernel_rfl
@[simp] theorem to160 : tok Try.prog 160 = true := by kernel_rfl
@[simp] theorem tz160 : tz Try.prog 160 = some [.nilf] := by kernel_rfl
@[simp] theorem tk161 : tk Try.prog 161 = some (false, 1) := by kernel_rfl
@[simp] theorem to161 : tok Try.prog 161 = true := by kernel_rfl
@[simp] theorem tz161 : tz Try.prog 161 = some [.nilf] := by kernel_rfl
@[simp] theorem tk162 : tk Try.prog 162 = some (false, 1) := by kernel_rfl
@[simp] theorem to162 : tok Try.prog 162 = true := by kernel_rfl
@[simp] theorem tz162 : tz Try.prog 162 = some [.nilf] := by kernel_rfl
@[simp] theorem tk163 : tk Try.prog 163 = some (false, 1) := by kernel_rfl
@[simp] theorem to163 : tok Try.prog 163 = true := by kernel_rfl
@[simp] theorem tz163 : tz Try.prog 163 = some [.nilf] := by kernel_rfl
@[simp] theorem tk164 : tk Try.prog 164 = some (false, 1) := by kernel_rfl
@[simp] theorem to164 : tok Try.prog 164 = true := by kernel_rfl
@[simp] theorem tz164 : tz Try.prog 164 = some [.nilf] := by kernel_rfl
@[simp] theorem tk165 : tk Try.prog 165 = some (false, 1) := by kernel_rfl
@[simp] theorem to165 : tok Try.prog 165 = true := by kernel_rfl
@[simp] theorem tz165 : tz Try.prog 165 = some [.nilf] := by kernel_rfl
@[simp] theorem tk166 : tk Try.prog 166 = some (false, 1) := by kernel_rfl
@[simp] theorem to166 : tok Try.prog 166 = true := by kernel_rfl
@[simp] theorem tz166 : tz Try.prog 166 = some [.nilf] := by kernel_rfl
@[simp] theorem tk167 : tk Try.prog 167 = some (false, 1) := by kernel_rfl
@[simp] theorem to167 : tok Try.prog 167 = true := by kernel_rfl
@[simp] theorem tz167 : tz Try.prog 167 = some [.nilf] := by kernel_rfl
@[simp] theorem tk173 : tk Try.prog 173 = some (false, 1) := by kernel_rfl
@[simp] theorem to173 : tok Try.prog 173 = true := by kernel_rfl
@[simp] theorem tz173 : tz Try.prog 173 = some [.nilf] := by kernel_rfl
@[simp] theorem tk176 : tk Try.prog 176 = some (false, 1) := by kernel_rfl
@[simp] theorem to176 : tok Try.prog 176 = true := by kernel_rfl
@[simp] theorem tz176 : tz Try.prog 176 = some [.nilf] := by kernel_rfl
@[simp] theorem tk177 : tk Try.prog 177 = some (false, 1) := by kernel_rfl
@[simp] theorem to177 : tok Try.prog 177 = true := by kernel_rfl
@[simp] theorem tz177 : tz Try.prog 177 = some [.nilp] := by kernel_rfl
end Go.Proofs.Ythonenmafbpbkaa
