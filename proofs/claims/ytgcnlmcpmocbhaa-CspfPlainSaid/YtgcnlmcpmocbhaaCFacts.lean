/- Closed facts on the types of the program. Printed by facts.py. -/
import Derived.Test.YtgcnlmcpmocbhaaAmQ
import Derived.Test.YtgcnlmcpmocbhaaProg
set_option linter.unusedSimpArgs false
set_option linter.unusedVariables false
namespace Go.Proofs.Ytgcnlmcpmocbhaa
open Go Go.Am
theorem mixed : Try.prog.follows .mixedOrders = true := by kernel_rfl
@[simp] theorem tk1 : tk Try.prog 1 = some (false, 1) := by kernel_rfl
@[simp] theorem to1 : tok Try.prog 1 = true := by kernel_rfl
@[simp] theorem tz1 : tz Try.prog 1 = some [.nilf] := by kernel_rfl
@[simp] theorem tk2 : tk Try.prog 2 = some (false, 1) := by kernel_rfl
@[simp] theorem ti2 : tint Try.prog 2 = some .i64 := by kernel_rfl
@[simp] theorem to2 : tok Try.prog 2 = true := by kernel_rfl
@[simp] theorem tz2 : tz Try.prog 2 = some [.int .i64 0] := by kernel_rfl
@[simp] theorem tk3 : tk Try.prog 3 = some (false, 1) := by kernel_rfl
@[simp] theorem ti3 : tint Try.prog 3 = some .i64 := by kernel_rfl
@[simp] theorem to3 : tok Try.prog 3 = true := by kernel_rfl
@[simp] theorem tz3 : tz Try.prog 3 = some [.int .i64 0] := by kernel_rfl
@[simp] theorem tk4 : tk Try.prog 4 = some (false, 1) := by kernel_rfl
@[simp] theorem to4 : tok Try.prog 4 = true := by kernel_rfl
@[simp] theorem tz4 : tz Try.prog 4 = some [.bool false] := by kernel_rfl
@[simp] theorem tk5 : tk Try.prog 5 = some (false, 1) := by kernel_rfl
@[simp] theorem ti5 : tint Try.prog 5 = some .u8 := by kernel_rfl
@[simp] theorem to5 : tok Try.prog 5 = true := by kernel_rfl
@[simp] theorem tz5 : tz Try.prog 5 = some [.int .u8 0] := by kernel_rfl
@[simp] theorem tk12 : tk Try.prog 12 = some (false, 1) := by kernel_rfl
@[simp] theorem ti12 : tint Try.prog 12 = some .u64 := by kernel_rfl
@[simp] theorem to12 : tok Try.prog 12 = true := by kernel_rfl
@[simp] theorem tz12 : tz Try.prog 12 = some [.int .u64 0] := by kernel_rfl
@[simp] theorem tk13 : tk Try.prog 13 = some (true, 2) := by kernel_rfl
@[simp] theorem to13 : tok Try.prog 13 = true := by kernel_rfl
@[simp] theorem tf13_0 : tf Try.prog 13 0 = some (0, 1, false) := by kernel_rfl
@[simp] theorem tf13_1 : tf Try.prog 13 1 = some (1, 1, false) := by kernel_rfl
@[simp] theorem tb13 : bplan Try.prog 13 = some ([(0, 1), (1, 1)], [.undef, .int .u64 0]) := by kernel_rfl
@[simp] theorem tz13 : tz Try.prog 13 = some [.undef, .int .u64 0] := by kernel_rfl
@[simp] theorem tk21 : tk Try.prog 21 = some (false, 1) := by kernel_rfl
@[simp] theorem ti21 : tint Try.prog 21 = some .i32 := by kernel_rfl
@[simp] theorem to21 : tok Try.prog 21 = true := by kernel_rfl
@[simp] theorem tz21 : tz Try.prog 21 = some [.int .i32 0] := by kernel_rfl
@[simp] theorem tk22 : tk Try.prog 22 = some (false, 1) := by kernel_rfl
@[simp] theorem to22 : tok Try.prog 22 = true := by kernel_rfl
@[simp] theorem te22 : te Try.prog 22 = some (13, none) := by kernel_rfl
@[simp] theorem ta22 : tap Try.prog 22 = some (13, 104) := by kernel_rfl
@[simp] theorem tcl22 : tcl Try.prog 22 = some 13 := by kernel_rfl
@[simp] theorem ts22 : tze Try.prog 22 = some [.int .i64 0, .int .i64 0, .int .i64 0, .int .i64 0, .int .i64 0, .int .i64 0, .int .i64 0, .int .i64 0, .int .i64 0, .int .i64 0, .int .i64 0, .int .i64 0, .int .u32 0] := by kernel_rfl
@[simp] theorem tz22 : tz Try.prog 22 = some [.sl 0 [] .full] := by kernel_rfl
@[simp] theorem tk23 : tk Try.prog 23 = some (false, 1) := by kernel_rfl
@[simp] theorem ti23 : tint Try.prog 23 = some .u32 := by kernel_rfl
@[simp] theorem to23 : tok Try.prog 23 = true := by kernel_rfl
@[simp] theorem tz23 : tz Try.prog 23 = some [.int .u32 0] := by kernel_rfl
@[simp] theorem tk24 : tk Try.prog 24 = some (false, 1) := by kernel_rfl
@[simp] theorem to24 : tok Try.prog 24 = true := by kernel_rfl
@[simp] theorem te24 : te Try.prog 24 = some (1, none) := by kernel_rfl
@[simp] theorem ta24 : tap Try.prog 24 = some (1, 8) := by kernel_rfl
@[simp] theorem tcl24 : tcl Try.prog 24 = some 1 := by kernel_rfl
@[simp] theorem ts24 : tze Try.prog 24 = some [.int .i64 0] := by kernel_rfl
@[simp] theorem tz24 : tz Try.prog 24 = some [.sl 0 [] .full] := by kernel_rfl
@[simp] theorem tk25 : tk Try.prog 25 = some (true, 8) := by kernel_rfl
@[simp] theorem to25 : tok Try.prog 25 = true := by kernel_rfl
@[simp] theorem tf25_0 : tf Try.prog 25 0 = some (0, 1, false) := by kernel_rfl
@[simp] theorem tf25_1 : tf Try.prog 25 1 = some (1, 1, false) := by kernel_rfl
@[simp] theorem tf25_2 : tf Try.prog 25 2 = some (2, 1, false) := by kernel_rfl
@[simp] theorem tf25_3 : tf Try.prog 25 3 = some (3, 1, false) := by kernel_rfl
@[simp] theorem tf25_4 : tf Try.prog 25 4 = some (4, 1, false) := by kernel_rfl
@[simp] theorem tf25_5 : tf Try.prog 25 5 = some (5, 1, false) := by kernel_rfl
@[simp] theorem tf25_6 : tf Try.prog 25 6 = some (6, 1, false) := by kernel_rfl
@[simp] theorem tf25_7 : tf Try.prog 25 7 = some (7, 1, false) := by kernel_rfl
@[simp] theorem tb25 : bplan Try.prog 25 = some ([(0, 1), (1, 1), (2, 1), (3, 1), (4, 1), (5, 1), (6, 1), (7, 1)], [.int .i64 0, .int .i64 0, .int .i64 0, .int .u32 0, .int .u32 0, .int .i64 0, .sl 0 [] .full, .sl 0 [] .full]) := by kernel_rfl
@[simp] theorem tz25 : tz Try.prog 25 = some [.int .i64 0, .int .i64 0, .int .i64 0, .int .u32 0, .int .u32 0, .int .i64 0, .sl 0 [] .full, .sl 0 [] .full] := by kernel_rfl
@[simp] theorem tk26 : tk Try.prog 26 = some (true, 8) := by kernel_rfl
@[simp] theorem to26 : tok Try.prog 26 = true := by kernel_rfl
@[simp] theorem tf26_0 : tf Try.prog 26 0 = some (0, 1, false) := by kernel_rfl
@[simp] theorem tf26_1 : tf Try.prog 26 1 = some (1, 1, false) := by kernel_rfl
@[simp] theorem tf26_2 : tf Try.prog 26 2 = some (2, 1, false) := by kernel_rfl
@[simp] theorem tf26_3 : tf Try.prog 26 3 = some (3, 1, false) := by kernel_rfl
@[simp] theorem tf26_4 : tf Try.prog 26 4 = some (4, 1, false) := by kernel_rfl
@[simp] theorem tf26_5 : tf Try.prog 26 5 = some (5, 1, false) := by kernel_rfl
@[simp] theorem tf26_6 : tf Try.prog 26 6 = some (6, 1, false) := by kernel_rfl
@[simp] theorem tf26_7 : tf Try.prog 26 7 = some (7, 1, false) := by kernel_rfl
@[simp] theorem tb26 : bplan Try.prog 26 = some ([(0, 1), (1, 1), (2, 1), (3, 1), (4, 1), (5, 1), (6, 1), (7, 1)], [.int .i64 0, .int .i64 0, .int .i64 0, .int .u32 0, .int .u32 0, .int .i64 0, .sl 0 [] .full, .sl 0 [] .full]) := by kernel_rfl
@[simp] theorem tz26 : tz Try.prog 26 = some [.int .i64 0, .int .i64 0, .int .i64 0, .int .u32 0, .int .u32 0, .int .i64 0, .sl 0 [] .full, .sl 0 [] .full] := by kernel_rfl
@[simp] theorem tk27 : tk Try.prog 27 = some (true, 8) := by kernel_rfl
@[simp] theorem to27 : tok Try.prog 27 = true := by kernel_rfl
@[simp] theorem te27 : te Try.prog 27 = some (1, some 8) := by kernel_rfl
@[simp] theorem tx27 : tx Try.prog 27 = some 8 := by kernel_rfl
@[simp] theorem tb27 : bplan Try.prog 27 = some ([(0, 1), (1, 1), (2, 1), (3, 1), (4, 1), (5, 1), (6, 1), (7, 1)], [.int .i64 0, .int .i64 0, .int .i64 0, .int .i64 0, .int .i64 0, .int .i64 0, .int .i64 0, .int .i64 0]) := by kernel_rfl
@[simp] theorem tz27 : tz Try.prog 27 = some [.int .i64 0, .int .i64 0, .int .i64 0, .int .i64 0, .int .i64 0, .int .i64 0, .int .i64 0, .int .i64 0] := by kernel_rfl
@[simp] theorem tk28 : tk Try.prog 28 = some (true, 13) := by kernel_rfl
@[simp] theorem to28 : tok Try.prog 28 = true := by kernel_rfl
@[simp] theorem tf28_0 : tf Try.prog 28 0 = some (0, 1, false) := by kernel_rfl
@[simp] theorem tf28_1 : tf Try.prog 28 1 = some (1, 1, false) := by kernel_rfl
@[simp] theorem tf28_2 : tf Try.prog 28 2 = some (2, 1, false) := by kernel_rfl
@[simp] theorem tf28_3 : tf Try.prog 28 3 = some (3, 1, false) := by kernel_rfl
@[simp] theorem tf28_4 : tf Try.prog 28 4 = some (4, 8, true) := by kernel_rfl
@[simp] theorem tf28_5 : tf Try.prog 28 5 = some (12, 1, false) := by kernel_rfl
@[simp] theorem tb28 : bplan Try.prog 28 = some ([(0, 1), (1, 1), (2, 1), (3, 1), (4, 8), (12, 1)], [.int .i64 0, .int .i64 0, .int .i64 0, .int .i64 0, .int .i64 0, .int .i64 0, .int .i64 0, .int .i64 0, .int .i64 0, .int .i64 0, .int .i64 0, .int .i64 0, .int .u32 0]) := by kernel_rfl
@[simp] theorem tz28 : tz Try.prog 28 = some [.int .i64 0, .int .i64 0, .int .i64 0, .int .i64 0, .int .i64 0, .int .i64 0, .int .i64 0, .int .i64 0, .int .i64 0, .int .i64 0, .int .i64 0, .int .i64 0, .int .u32 0] := by kernel_rfl
@[simp] theorem tk29 : tk Try.prog 29 = some (true, 13) := by kernel_rfl
@[simp] theorem to29 : tok Try.prog 29 = true := by kernel_rfl
@[simp] theorem tf29_0 : tf Try.prog 29 0 = some (0, 1, false) := by kernel_rfl
@[simp] theorem tf29_1 : tf Try.prog 29 1 = some (1, 1, false) := by kernel_rfl
@[simp] theorem tf29_2 : tf Try.prog 29 2 = some (2, 1, false) := by kernel_rfl
@[simp] theorem tf29_3 : tf Try.prog 29 3 = some (3, 1, false) := by kernel_rfl
@[simp] theorem tf29_4 : tf Try.prog 29 4 = some (4, 8, true) := by kernel_rfl
@[simp] theorem tf29_5 : tf Try.prog 29 5 = some (12, 1, false) := by kernel_rfl
@[simp] theorem tb29 : bplan Try.prog 29 = some ([(0, 1), (1, 1), (2, 1), (3, 1), (4, 8), (12, 1)], [.int .i64 0, .int .i64 0, .int .i64 0, .int .i64 0, .int .i64 0, .int .i64 0, .int .i64 0, .int .i64 0, .int .i64 0, .int .i64 0, .int .i64 0, .int .i64 0, .int .u32 0]) := by kernel_rfl
@[simp] theorem tz29 : tz Try.prog 29 = some [.int .i64 0, .int .i64 0, .int .i64 0, .int .i64 0, .int .i64 0, .int .i64 0, .int .i64 0, .int .i64 0, .int .i64 0, .int .i64 0, .int .i64 0, .int .i64 0, .int .u32 0] := by kernel_rfl
@[simp] theorem tk30 : tk Try.prog 30 = some (false, 1) := by kernel_rfl
@[simp] theorem to30 : tok Try.prog 30 = true := by kernel_rfl
@[simp] theorem tz30 : tz Try.prog 30 = some [.nilf] := by kernel_rfl
@[simp] theorem tk31 : tk Try.prog 31 = some (false, 1) := by kernel_rfl
@[simp] theorem to31 : tok Try.prog 31 = true := by kernel_rfl
@[simp] theorem tz31 : tz Try.prog 31 = some [.nilf] := by kernel_rfl
@[simp] theorem tk32 : tk Try.prog 32 = some (false, 1) := by kernel_rfl
@[simp] theorem ti32 : tint Try.prog 32 = some .i64 := by kernel_rfl
@[simp] theorem to32 : tok Try.prog 32 = true := by kernel_rfl
@[simp] theorem tz32 : tz Try.prog 32 = some [.int .i64 0] := by kernel_rfl
@[simp] theorem tk33 : tk Try.prog 33 = some (false, 1) := by kernel_rfl
@[simp] theorem to33 : tok Try.prog 33 = true := by kernel_rfl
@[simp] theorem tz33 : tz Try.prog 33 = some [.nilf] := by kernel_rfl
@[simp] theorem tk34 : tk Try.prog 34 = some (false, 1) := by kernel_rfl
@[simp] theorem to34 : tok Try.prog 34 = true := by kernel_rfl
@[simp] theorem tz34 : tz Try.prog 34 = some [.nilf] := by kernel_rfl
@[simp] theorem tk36 : tk Try.prog 36 = some (false, 1) := by kernel_rfl
@[simp] theorem to36 : tok Try.prog 36 = true := by kernel_rfl
@[simp] theorem tz36 : tz Try.prog 36 = some [.nilf] := by kernel_rfl
@[simp] theorem tk37 : tk Try.prog 37 = some (false, 1) := by kernel_rfl
@[simp] theorem to37 : tok Try.prog 37 = true := by kernel_rfl
@[simp] theorem tz37 : tz Try.prog 37 = some [.nilf] := by kernel_rfl
@[simp] theorem tk38 : tk Try.prog 38 = some (false, 1) := by kernel_rfl
@[simp] theorem to38 : tok Try.prog 38 = true := by kernel_rfl
@[simp] theorem tz38 : tz Try.prog 38 = some [.nilf] := by kernel_rfl
@[simp] theorem tk39 : tk Try.prog 39 = some (false, 1) := by kernel_rfl
@[simp] theorem to39 : tok Try.prog 39 = true := by kernel_rfl
@[simp] theorem tz39 : tz Try.prog 39 = some [.nilf] := by kernel_rfl
@[simp] theorem tk40 : tk Try.prog 40 = some (false, 1) := by kernel_rfl
@[simp] theorem to40 : tok Try.prog 40 = true := by kernel_rfl
@[simp] theorem tz40 : tz Try.prog 40 = some [.nilf] := by kernel_rfl
@[simp] theorem tk41 : tk Try.prog 41 = some (false, 1) := by kernel_rfl
@[simp] theorem to41 : tok Try.prog 41 = true := by kernel_rfl
@[simp] theorem tz41 : tz Try.prog 41 = some [.nilf] := by kernel_rfl
@[simp] theorem tk42 : tk Try.prog 42 = some (false, 1) := by kernel_rfl
@[simp] theorem to42 : tok Try.prog 42 = true := by kernel_rfl
@[simp] theorem te42 : te Try.prog 42 = some (3, none) := by kernel_rfl
@[simp] theorem ta42 : tap Try.prog 42 = some (3, 24) := by kernel_rfl
@[simp] theorem tcl42 : tcl Try.prog 42 = some 3 := by kernel_rfl
@[simp] theorem ts42 : tze Try.prog 42 = some [.int .i64 0, .int .i64 0, .int .i64 0] := by kernel_rfl
@[simp] theorem tz42 : tz Try.prog 42 = some [.sl 0 [] .full] := by kernel_rfl
@[simp] theorem tk43 : tk Try.prog 43 = some (true, 3) := by kernel_rfl
@[simp] theorem to43 : tok Try.prog 43 = true := by kernel_rfl
@[simp] theorem tf43_0 : tf Try.prog 43 0 = some (0, 1, false) := by kernel_rfl
@[simp] theorem tf43_1 : tf Try.prog 43 1 = some (1, 1, false) := by kernel_rfl
@[simp] theorem tf43_2 : tf Try.prog 43 2 = some (2, 1, false) := by kernel_rfl
@[simp] theorem tb43 : bplan Try.prog 43 = some ([(0, 1), (1, 1), (2, 1)], [.int .i64 0, .int .i64 0, .sl 0 [] .full]) := by kernel_rfl
@[simp] theorem tz43 : tz Try.prog 43 = some [.int .i64 0, .int .i64 0, .sl 0 [] .full] := by kernel_rfl
@[simp] theorem tk44 : tk Try.prog 44 = some (true, 3) := by kernel_rfl
@[simp] theorem to44 : tok Try.prog 44 = true := by kernel_rfl
@[simp] theorem tf44_0 : tf Try.prog 44 0 = some (0, 1, false) := by kernel_rfl
@[simp] theorem tf44_1 : tf Try.prog 44 1 = some (1, 1, false) := by kernel_rfl
@[simp] theorem tf44_2 : tf Try.prog 44 2 = some (2, 1, false) := by kernel_rfl
@[simp] theorem tb44 : bplan Try.prog 44 = some ([(0, 1), (1, 1), (2, 1)], [.int .i64 0, .int .i64 0, .sl 0 [] .full]) := by kernel_rfl
@[simp] theorem tz44 : tz Try.prog 44 = some [.int .i64 0, .int .i64 0, .sl 0 [] .full] := by kernel_rfl
@[simp] theorem tk45 : tk Try.prog 45 = some (true, 3) := by kernel_rfl
@[simp] theorem to45 : tok Try.prog 45 = true := by kernel_rfl
@[simp] theorem tf45_0 : tf Try.prog 45 0 = some (0, 1, false) := by kernel_rfl
@[simp] theorem tf45_1 : tf Try.prog 45 1 = some (1, 1, false) := by kernel_rfl
@[simp] theorem tf45_2 : tf Try.prog 45 2 = some (2, 1, false) := by kernel_rfl
@[simp] theorem tq45 : feq Try.prog 45 = some [true, true, true] := by kernel_rfl
@[simp] theorem tb45 : bplan Try.prog 45 = some ([(0, 1), (1, 1), (2, 1)], [.int .i64 0, .int .i64 0, .int .i64 0]) := by kernel_rfl
@[simp] theorem tz45 : tz Try.prog 45 = some [.int .i64 0, .int .i64 0, .int .i64 0] := by kernel_rfl
@[simp] theorem tk46 : tk Try.prog 46 = some (true, 3) := by kernel_rfl
@[simp] theorem to46 : tok Try.prog 46 = true := by kernel_rfl
@[simp] theorem tf46_0 : tf Try.prog 46 0 = some (0, 1, false) := by kernel_rfl
@[simp] theorem tf46_1 : tf Try.prog 46 1 = some (1, 1, false) := by kernel_rfl
@[simp] theorem tf46_2 : tf Try.prog 46 2 = some (2, 1, false) := by kernel_rfl
@[simp] theorem tq46 : feq Try.prog 46 = some [true, true, true] := by kernel_rfl
@[simp] theorem tb46 : bplan Try.prog 46 = some ([(0, 1), (1, 1), (2, 1)], [.int .i64 0, .int .i64 0, .int .i64 0]) := by kernel_rfl
@[simp] theorem tz46 : tz Try.prog 46 = some [.int .i64 0, .int .i64 0, .int .i64 0] := by kernel_rfl
@[simp] theorem tk47 : tk Try.prog 47 = some (false, 1) := by kernel_rfl
@[simp] theorem to47 : tok Try.prog 47 = true := by kernel_rfl
@[simp] theorem te47 : te Try.prog 47 = some (1, none) := by kernel_rfl
@[simp] theorem ta47 : tap Try.prog 47 = some (1, 24) := by kernel_rfl
@[simp] theorem tcl47 : tcl Try.prog 47 = some 1 := by kernel_rfl
@[simp] theorem ts47 : tze Try.prog 47 = some [.sl 0 [] .full] := by kernel_rfl
@[simp] theorem tz47 : tz Try.prog 47 = some [.sl 0 [] .full] := by kernel_rfl
@[simp] theorem tk48 : tk Try.prog 48 = some (true, 4) := by kernel_rfl
@[simp] theorem to48 : tok Try.prog 48 = true := by kernel_rfl
@[simp] theorem tf48_0 : tf Try.prog 48 0 = some (0, 1, false) := by kernel_rfl
@[simp] theorem tf48_1 : tf Try.prog 48 1 = some (1, 1, false) := by kernel_rfl
@[simp] theorem tf48_2 : tf Try.prog 48 2 = some (2, 1, false) := by kernel_rfl
@[simp] theorem tf48_3 : tf Try.prog 48 3 = some (3, 1, false) := by kernel_rfl
@[simp] theorem tb48 : bplan Try.prog 48 = some ([(0, 1), (1, 1), (2, 1), (3, 1)], [.int .i64 0, .sl 0 [] .full, .sl 0 [] .full, .sl 0 [] .full]) := by kernel_rfl
@[simp] theorem tz48 : tz Try.prog 48 = some [.int .i64 0, .sl 0 [] .full, .sl 0 [] .full, .sl 0 [] .full] := by kernel_rfl
@[simp] theorem tk49 : tk Try.prog 49 = some (true, 4) := by kernel_rfl
@[simp] theorem to49 : tok Try.prog 49 = true := by kernel_rfl
@[simp] theorem tf49_0 : tf Try.prog 49 0 = some (0, 1, false) := by kernel_rfl
@[simp] theorem tf49_1 : tf Try.prog 49 1 = some (1, 1, false) := by kernel_rfl
@[simp] theorem tf49_2 : tf Try.prog 49 2 = some (2, 1, false) := by kernel_rfl
@[simp] theorem tf49_3 : tf Try.prog 49 3 = some (3, 1, false) := by kernel_rfl
@[simp] theorem tb49 : bplan Try.prog 49 = some ([(0, 1), (1, 1), (2, 1), (3, 1)], [.int .i64 0, .sl 0 [] .full, .sl 0 [] .full, .sl 0 [] .full]) := by kernel_rfl
@[simp] theorem tz49 : tz Try.prog 49 = some [.int .i64 0, .sl 0 [] .full, .sl 0 [] .full, .sl 0 [] .full] := by kernel_rfl
@[simp] theorem tk51 : tk Try.prog 51 = some (false, 1) := by kernel_rfl
@[simp] theorem to51 : tok Try.prog 51 = true := by kernel_rfl
@[simp] theorem tz51 : tz Try.prog 51 = some [.nilf] := by kernel_rfl
@[simp] theorem tk52 : tk Try.prog 52 = some (false, 1) := by kernel_rfl
@[simp] theorem to52 : tok Try.prog 52 = true := by kernel_rfl
@[simp] theorem tz52 : tz Try.prog 52 = some [.nilf] := by kernel_rfl
@[simp] theorem tk53 : tk Try.prog 53 = some (false, 1) := by kernel_rfl
@[simp] theorem to53 : tok Try.prog 53 = true := by kernel_rfl
@[simp] theorem tz53 : tz Try.prog 53 = some [.nilf] := by kernel_rfl
@[simp] theorem tk54 : tk Try.prog 54 = some (false, 1) := by kernel_rfl
@[simp] theorem to54 : tok Try.prog 54 = true := by kernel_rfl
@[simp] theorem tz54 : tz Try.prog 54 = some [.nilf] := by kernel_rfl
@[simp] theorem tk55 : tk Try.prog 55 = some (false, 1) := by kernel_rfl
@[simp] theorem to55 : tok Try.prog 55 = true := by kernel_rfl
@[simp] theorem tz55 : tz Try.prog 55 = some [.nilf] := by kernel_rfl
@[simp] theorem tk56 : tk Try.prog 56 = some (false, 1) := by kernel_rfl
@[simp] theorem to56 : tok Try.prog 56 = true := by kernel_rfl
@[simp] theorem tz56 : tz Try.prog 56 = some [.nilf] := by kernel_rfl
@[simp] theorem tk57 : tk Try.prog 57 = some (false, 1) := by kernel_rfl
@[simp] theorem to57 : tok Try.prog 57 = true := by kernel_rfl
@[simp] theorem tz57 : tz Try.prog 57 = some [.nilf] := by kernel_rfl
@[simp] theorem tk58 : tk Try.prog 58 = some (false, 1) := by kernel_rfl
@[simp] theorem to58 : tok Try.prog 58 = true := by kernel_rfl
@[simp] theorem tz58 : tz Try.prog 58 = some [.nilf] := by kernel_rfl
@[simp] theorem tk59 : tk Try.prog 59 = some (false, 1) := by kernel_rfl
@[simp] theorem to59 : tok Try.prog 59 = true := by kernel_rfl
@[simp] theorem tz59 : tz Try.prog 59 = some [.nilp] := by kernel_rfl
@[simp] theorem tk60 : tk Try.prog 60 = some (true, 4) := by kernel_rfl
@[simp] theorem to60 : tok Try.prog 60 = true := by kernel_rfl
@[simp] theorem tf60_0 : tf Try.prog 60 0 = some (0, 1, false) := by kernel_rfl
@[simp] theorem tf60_1 : tf Try.prog 60 1 = some (1, 1, false) := by kernel_rfl
@[simp] theorem tf60_2 : tf Try.prog 60 2 = some (2, 1, false) := by kernel_rfl
@[simp] theorem tf60_3 : tf Try.prog 60 3 = some (3, 1, false) := by kernel_rfl
@[simp] theorem tb60 : bplan Try.prog 60 = some ([(0, 1), (1, 1), (2, 1), (3, 1)], [.sl 0 [] .full, .sl 0 [] .full, .int .i64 0, .int .i64 0]) := by kernel_rfl
@[simp] theorem tz60 : tz Try.prog 60 = some [.sl 0 [] .full, .sl 0 [] .full, .int .i64 0, .int .i64 0] := by kernel_rfl
@[simp] theorem tk61 : tk Try.prog 61 = some (true, 4) := by kernel_rfl
@[simp] theorem to61 : tok Try.prog 61 = true := by kernel_rfl
@[simp] theorem tf61_0 : tf Try.prog 61 0 = some (0, 1, false) := by kernel_rfl
@[simp] theorem tf61_1 : tf Try.prog 61 1 = some (1, 1, false) := by kernel_rfl
@[simp] theorem tf61_2 : tf Try.prog 61 2 = some (2, 1, false) := by kernel_rfl
@[simp] theorem tf61_3 : tf Try.prog 61 3 = some (3, 1, false) := by kernel_rfl
@[simp] theorem tb61 : bplan Try.prog 61 = some ([(0, 1), (1, 1), (2, 1), (3, 1)], [.sl 0 [] .full, .sl 0 [] .full, .int .i64 0, .int .i64 0]) := by kernel_rfl
@[simp] theorem tz61 : tz Try.prog 61 = some [.sl 0 [] .full, .sl 0 [] .full, .int .i64 0, .int .i64 0] := by kernel_rfl
@[simp] theorem tk63 : tk Try.prog 63 = some (false, 1) := by kernel_rfl
@[simp] theorem to63 : tok Try.prog 63 = true := by kernel_rfl
@[simp] theorem tz63 : tz Try.prog 63 = some [.nilf] := by kernel_rfl
@[simp] theorem tk64 : tk Try.prog 64 = some (false, 1) := by kernel_rfl
@[simp] theorem to64 : tok Try.prog 64 = true := by kernel_rfl
@[simp] theorem tz64 : tz Try.prog 64 = some [.nilf] := by kernel_rfl
@[simp] theorem tk65 : tk Try.prog 65 = some (true, 3) := by kernel_rfl
@[simp] theorem to65 : tok Try.prog 65 = true := by kernel_rfl
@[simp] theorem tf65_0 : tf Try.prog 65 0 = some (0, 1, false) := by kernel_rfl
@[simp] theorem tf65_1 : tf Try.prog 65 1 = some (1, 1, false) := by kernel_rfl
@[simp] theorem tf65_2 : tf Try.prog 65 2 = some (2, 1, false) := by kernel_rfl
@[simp] theorem tb65 : bplan Try.prog 65 = some ([(0, 1), (1, 1), (2, 1)], [.sl 0 [] .full, .int .i64 0, .int .i64 0]) := by kernel_rfl
@[simp] theorem tz65 : tz Try.prog 65 = some [.sl 0 [] .full, .int .i64 0, .int .i64 0] := by kernel_rfl
@[simp] theorem tk66 : tk Try.prog 66 = some (true, 3) := by kernel_rfl
@[simp] theorem to66 : tok Try.prog 66 = true := by kernel_rfl
@[simp] theorem tf66_0 : tf Try.prog 66 0 = some (0, 1, false) := by kernel_rfl
@[simp] theorem tf66_1 : tf Try.prog 66 1 = some (1, 1, false) := by kernel_rfl
@[simp] theorem tf66_2 : tf Try.prog 66 2 = some (2, 1, false) := by kernel_rfl
@[simp] theorem tb66 : bplan Try.prog 66 = some ([(0, 1), (1, 1), (2, 1)], [.sl 0 [] .full, .int .i64 0, .int .i64 0]) := by kernel_rfl
@[simp] theorem tz66 : tz Try.prog 66 = some [.sl 0 [] .full, .int .i64 0, .int .i64 0] := by kernel_rfl
@[simp] theorem tk67 : tk Try.prog 67 = some (false, 1) := by kernel_rfl
@[simp] theorem to67 : tok Try.prog 67 = true := by kernel_rfl
@[simp] theorem te67 : te Try.prog 67 = some (3, none) := by kernel_rfl
@[simp] theorem ta67 : tap Try.prog 67 = some (3, 40) := by kernel_rfl
@[simp] theorem tcl67 : tcl Try.prog 67 = some 3 := by kernel_rfl
@[simp] theorem ts67 : tze Try.prog 67 = some [.sl 0 [] .full, .int .i64 0, .int .i64 0] := by kernel_rfl
@[simp] theorem tz67 : tz Try.prog 67 = some [.sl 0 [] .full] := by kernel_rfl
@[simp] theorem tk68 : tk Try.prog 68 = some (false, 1) := by kernel_rfl
@[simp] theorem to68 : tok Try.prog 68 = true := by kernel_rfl
@[simp] theorem tz68 : tz Try.prog 68 = some [.nilf] := by kernel_rfl
@[simp] theorem tk69 : tk Try.prog 69 = some (false, 1) := by kernel_rfl
@[simp] theorem to69 : tok Try.prog 69 = true := by kernel_rfl
@[simp] theorem tz69 : tz Try.prog 69 = some [.nilf] := by kernel_rfl
@[simp] theorem tk70 : tk Try.prog 70 = some (false, 1) := by kernel_rfl
@[simp] theorem to70 : tok Try.prog 70 = true := by kernel_rfl
@[simp] theorem tz70 : tz Try.prog 70 = some [.nilf] := by kernel_rfl
@[simp] theorem tk71 : tk Try.prog 71 = some (false, 1) := by kernel_rfl
@[simp] theorem to71 : tok Try.prog 71 = true := by kernel_rfl
@[simp] theorem tz71 : tz Try.prog 71 = some [.nilf] := by kernel_rfl
@[simp] theorem tk72 : tk Try.prog 72 = some (false, 1) := by kernel_rfl
@[simp] theorem to72 : tok Try.prog 72 = true := by kernel_rfl
@[simp] theorem tz72 : tz Try.prog 72 = some [.nilf] := by kernel_rfl
@[simp] theorem tk74 : tk Try.prog 74 = some (false, 1) := by kernel_rfl
@[simp] theorem to74 : tok Try.prog 74 = true := by kernel_rfl
@[simp] theorem tz74 : tz Try.prog 74 = some [.nilf] := by kernel_rfl
@[simp] theorem tk75 : tk Try.prog 75 = some (false, 1) := by kernel_rfl
@[simp] theorem to75 : tok Try.prog 75 = true := by kernel_rfl
@[simp] theorem tz75 : tz Try.prog 75 = some [.nilf] := by kernel_rfl
@[simp] theorem tk76 : tk Try.prog 76 = some (false, 1) := by kernel_rfl
@[simp] theorem to76 : tok Try.prog 76 = true := by kernel_rfl
@[simp] theorem tz76 : tz Try.prog 76 = some [.nilf] := by kernel_rfl
@[simp] theorem tk77 : tk Try.prog 77 = some (false, 1) := by kernel_rfl
@[simp] theorem to77 : tok Try.prog 77 = true := by kernel_rfl
@[simp] theorem tz77 : tz Try.prog 77 = some [.nilf] := by kernel_rfl
@[simp] theorem tk79 : tk Try.prog 79 = some (false, 1) := by kernel_rfl
@[simp] theorem to79 : tok Try.prog 79 = true := by kernel_rfl
@[simp] theorem tz79 : tz Try.prog 79 = some [.nilf] := by kernel_rfl
@[simp] theorem tk80 : tk Try.prog 80 = some (false, 1) := by kernel_rfl
@[simp] theorem to80 : tok Try.prog 80 = true := by kernel_rfl
@[simp] theorem tz80 : tz Try.prog 80 = some [.nilf] := by kernel_rfl
@[simp] theorem tk81 : tk Try.prog 81 = some (false, 1) := by kernel_rfl
@[simp] theorem to81 : tok Try.prog 81 = true := by kernel_rfl
@[simp] theorem tz81 : tz Try.prog 81 = some [.nilf] := by kernel_rfl
@[simp] theorem tk82 : tk Try.prog 82 = some (false, 1) := by kernel_rfl
@[simp] theorem to82 : tok Try.prog 82 = true := by kernel_rfl
@[simp] theorem tz82 : tz Try.prog 82 = some [.nilf] := by kernel_rfl
@[simp] theorem tk83 : tk Try.prog 83 = some (false, 1) := by kernel_rfl
@[simp] theorem to83 : tok Try.prog 83 = true := by kernel_rfl
@[simp] theorem te83 : te Try.prog 83 = some (2, none) := by kernel_rfl
@[simp] theorem ta83 : tap Try.prog 83 = some (2, 16) := by kernel_rfl
@[simp] theorem tcl83 : tcl Try.prog 83 = some 2 := by kernel_rfl
@[simp] theorem ts83 : tze Try.prog 83 = some [.int .i64 0, .int .i64 0] := by kernel_rfl
@[simp] theorem tz83 : tz Try.prog 83 = some [.sl 0 [] .full] := by kernel_rfl
@[simp] theorem tk84 : tk Try.prog 84 = some (false, 1) := by kernel_rfl
@[simp] theorem to84 : tok Try.prog 84 = true := by kernel_rfl
@[simp] theorem tz84 : tz Try.prog 84 = some [.nilf] := by kernel_rfl
@[simp] theorem tk85 : tk Try.prog 85 = some (true, 2) := by kernel_rfl
@[simp] theorem to85 : tok Try.prog 85 = true := by kernel_rfl
@[simp] theorem te85 : te Try.prog 85 = some (1, some 2) := by kernel_rfl
@[simp] theorem tx85 : tx Try.prog 85 = some 2 := by kernel_rfl
@[simp] theorem tb85 : bplan Try.prog 85 = some ([(0, 1), (1, 1)], [.int .i64 0, .int .i64 0]) := by kernel_rfl
@[simp] theorem tz85 : tz Try.prog 85 = some [.int .i64 0, .int .i64 0] := by kernel_rfl
@[simp] theorem tk86 : tk Try.prog 86 = some (true, 2) := by kernel_rfl
@[simp] theorem to86 : tok Try.prog 86 = true := by kernel_rfl
@[simp] theorem te86 : te Try.prog 86 = some (1, some 2) := by kernel_rfl
@[simp] theorem tx86 : tx Try.prog 86 = some 2 := by kernel_rfl
@[simp] theorem tb86 : bplan Try.prog 86 = some ([(0, 1), (1, 1)], [.int .i64 0, .int .i64 0]) := by kernel_rfl
@[simp] theorem tz86 : tz Try.prog 86 = some [.int .i64 0, .int .i64 0] := by kernel_rfl
@[simp] theorem tk87 : tk Try.prog 87 = some (false, 1) := by kernel_rfl
@[simp] theorem to87 : tok Try.prog 87 = true := by kernel_rfl
@[simp] theorem tz87 : tz Try.prog 87 = some [.nilf] := by kernel_rfl
@[simp] theorem tk88 : tk Try.prog 88 = some (false, 1) := by kernel_rfl
@[simp] theorem to88 : tok Try.prog 88 = true := by kernel_rfl
@[simp] theorem tz88 : tz Try.prog 88 = some [.nilf] := by kernel_rfl
@[simp] theorem tk89 : tk Try.prog 89 = some (false, 1) := by kernel_rfl
@[simp] theorem to89 : tok Try.prog 89 = true := by kernel_rfl
@[simp] theorem tz89 : tz Try.prog 89 = some [.nilf] := by kernel_rfl
@[simp] theorem tk90 : tk Try.prog 90 = some (false, 1) := by kernel_rfl
@[simp] theorem to90 : tok Try.prog 90 = true := by kernel_rfl
@[simp] theorem tz90 : tz Try.prog 90 = some [.nilf] := by kernel_rfl
@[simp] theorem tk91 : tk Try.prog 91 = some (false, 1) := by kernel_rfl
@[simp] theorem to91 : tok Try.prog 91 = true := by kernel_rfl
@[simp] theorem tz91 : tz Try.prog 91 = some [.nilf] := by kernel_rfl
@[simp] theorem tk92 : tk Try.prog 92 = some (false, 1) := by kernel_rfl
@[simp] theorem to92 : tok Try.prog 92 = true := by kernel_rfl
@[simp] theorem tz92 : tz Try.prog 92 = some [.nilf] := by kernel_rfl
@[simp] theorem tk93 : tk Try.prog 93 = some (false, 1) := by kernel_rfl
@[simp] theorem to93 : tok Try.prog 93 = true := by kernel_rfl
@[simp] theorem tz93 : tz Try.prog 93 = some [.nilf] := by kernel_rfl
@[simp] theorem tk94 : tk Try.prog 94 = some (false, 1) := by kernel_rfl
@[simp] theorem to94 : tok Try.prog 94 = true := by kernel_rfl
@[simp] theorem tz94 : tz Try.prog 94 = some [.nilf] := by kernel_rfl
@[simp] theorem tk95 : tk Try.prog 95 = some (false, 1) := by kernel_rfl
@[simp] theorem to95 : tok Try.prog 95 = true := by kernel_rfl
@[simp] theorem tz95 : tz Try.prog 95 = some [.nilf] := by kernel_rfl
@[simp] theorem tk96 : tk Try.prog 96 = some (false, 1) := by kernel_rfl
@[simp] theorem to96 : tok Try.prog 96 = true := by kernel_rfl
@[simp] theorem tz96 : tz Try.prog 96 = some [.nilf] := by kernel_rfl
@[simp] theorem tk97 : tk Try.prog 97 = some (false, 1) := by kernel_rfl
@[simp] theorem to97 : tok Try.prog 97 = true := by kernel_rfl
@[simp] theorem tz97 : tz Try.prog 97 = some [.nilf] := by kernel_rfl
@[simp] theorem tk98 : tk Try.prog 98 = some (false, 1) := by kernel_rfl
@[simp] theorem to98 : tok Try.prog 98 = true := by kernel_rfl
@[simp] theorem te98 : te Try.prog 98 = some (1, none) := by kernel_rfl
@[simp] theorem ta98 : tap Try.prog 98 = some (1, 24) := by kernel_rfl
@[simp] theorem tcl98 : tcl Try.prog 98 = some 1 := by kernel_rfl
@[simp] theorem ts98 : tze Try.prog 98 = some [.sl 0 [] .full] := by kernel_rfl
@[simp] theorem tz98 : tz Try.prog 98 = some [.sl 0 [] .full] := by kernel_rfl
@[simp] theorem tk99 : tk Try.prog 99 = some (false, 1) := by kernel_rfl
@[simp] theorem to99 : tok Try.prog 99 = true := by kernel_rfl
@[simp] theorem tz99 : tz Try.prog 99 = some [.nilf] := by kernel_rfl
@[simp] theorem tk100 : tk Try.prog 100 = some (false, 1) := by kernel_rfl
@[simp] theorem to100 : tok Try.prog 100 = true := by kernel_rfl
@[simp] theorem tz100 : tz Try.prog 100 = some [.nilf] := by kernel_rfl
@[simp] theorem tk101 : tk Try.prog 101 = some (false, 1) := by kernel_rfl
@[simp] theorem to101 : tok Try.prog 101 = true := by kernel_rfl
@[simp] theorem tz101 : tz Try.prog 101 = some [.nilp] := by kernel_rfl
@[simp] theorem tk102 : tk Try.prog 102 = some (false, 1) := by kernel_rfl
@[simp] theorem to102 : tok Try.prog 102 = true := by kernel_rfl
@[simp] theorem tz102 : tz Try.prog 102 = some [.nilf] := by kernel_rfl
@[simp] theorem tk103 : tk Try.prog 103 = some (false, 1) := by kernel_rfl
@[simp] theorem to103 : tok Try.prog 103 = true := by kernel_rfl
@[simp] theorem tz103 : tz Try.prog 103 = some [.nilf] := by kernel_rfl
@[simp] theorem tk104 : tk Try.prog 104 = some (false, 1) := by kernel_rfl
@[simp] theorem to104 : tok Try.prog 104 = true := by kernel_rfl
@[simp] theorem tz104 : tz Try.prog 104 = some [.nilf] := by kernel_rfl
@[simp] theorem tk106 : tk Try.prog 106 = some (false, 1) := by kernel_rfl
@[simp] theorem to106 : tok Try.prog 106 = true := by kernel_rfl
@[simp] theorem tz106 : tz Try.prog 106 = some [.nilf] := by kernel_rfl
@[simp] theorem tk107 : tk Try.prog 107 = some (false, 1) := by kernel_rfl
@[simp] theorem ti107 : tint Try.prog 107 = some .u64 := by kernel_rfl
@[simp] theorem to107 : tok Try.prog 107 = true := by kernel_rfl
@[simp] theorem tz107 : tz Try.prog 107 = some [.int .u64 0] := by kernel_rfl
@[simp] theorem tk108 : tk Try.prog 108 = some (false, 1) := by kernel_rfl
@[simp] theorem to108 : tok Try.prog 108 = true := by kernel_rfl
@[simp] theorem tz108 : tz Try.prog 108 = some [.nilf] := by kernel_rfl
@[simp] theorem tk109 : tk Try.prog 109 = some (false, 1) := by kernel_rfl
@[simp] theorem to109 : tok Try.prog 109 = true := by kernel_rfl
@[simp] theorem tz109 : tz Try.prog 109 = some [.nilf] := by kernel_rfl
@[simp] theorem tk110 : tk Try.prog 110 = some (false, 1) := by kernel_rfl
@[simp] theorem to110 : tok Try.prog 110 = true := by kernel_rfl
@[simp] theorem tz110 : tz Try.prog 110 = some [.nilf] := by kernel_rfl
@[simp] theorem tk111 : tk Try.prog 111 = some (true, 3) := by kernel_rfl
@[simp] theorem to111 : tok Try.prog 111 = true := by kernel_rfl
@[simp] theorem tf111_0 : tf Try.prog 111 0 = some (0, 1, false) := by kernel_rfl
@[simp] theorem tf111_1 : tf Try.prog 111 1 = some (1, 1, false) := by kernel_rfl
@[simp] theorem tf111_2 : tf Try.prog 111 2 = some (2, 1, false) := by kernel_rfl
@[simp] theorem tb111 : bplan Try.prog 111 = some ([(0, 1), (1, 1), (2, 1)], [.sl 0 [] .full, .sl 0 [] .full, .sl 0 [] .full]) := by kernel_rfl
@[simp] theorem tz111 : tz Try.prog 111 = some [.sl 0 [] .full, .sl 0 [] .full, .sl 0 [] .full] := by kernel_rfl
@[simp] theorem tk112 : tk Try.prog 112 = some (true, 3) := by kernel_rfl
@[simp] theorem to112 : tok Try.prog 112 = true := by kernel_rfl
@[simp] theorem tf112_0 : tf Try.prog 112 0 = some (0, 1, false) := by kernel_rfl
@[simp] theorem tf112_1 : tf Try.prog 112 1 = some (1, 1, false) := by kernel_rfl
@[simp] theorem tf112_2 : tf Try.prog 112 2 = some (2, 1, false) := by kernel_rfl
@[simp] theorem tb112 : bplan Try.prog 112 = some ([(0, 1), (1, 1), (2, 1)], [.sl 0 [] .full, .sl 0 [] .full, .sl 0 [] .full]) := by kernel_rfl
@[simp] theorem tz112 : tz Try.prog 112 = some [.sl 0 [] .full, .sl 0 [] .full, .sl 0 [] .full] := by kernel_rfl
@[simp] theorem tk113 : tk Try.prog 113 = some (false, 1) := by kernel_rfl
@[simp] theorem to113 : tok Try.prog 113 = true := by kernel_rfl
@[simp] theorem tz113 : tz Try.prog 113 = some [.nilf] := by kernel_rfl
@[simp] theorem tk114 : tk Try.prog 114 = some (false, 1) := by kernel_rfl
@[simp] theorem to114 : tok Try.prog 114 = true := by kernel_rfl
@[simp] theorem tz114 : tz Try.prog 114 = some [.nilf] := by kernel_rfl
@[simp] theorem tk115 : tk Try.prog 115 = some (false, 1) := by kernel_rfl
@[simp] theorem to115 : tok Try.prog 115 = true := by kernel_rfl
@[simp] theorem tz115 : tz Try.prog 115 = some [.nilf] := by kernel_rfl
@[simp] theorem tk117 : tk Try.prog 117 = some (false, 1) := by kernel_rfl
@[simp] theorem to117 : tok Try.prog 117 = true := by kernel_rfl
@[simp] theorem tz117 : tz Try.prog 117 = some [.nilf] := by kernel_rfl
@[simp] theorem tk119 : tk Try.prog 119 = some (false, 1) := by kernel_rfl
@[simp] theorem to119 : tok Try.prog 119 = true := by kernel_rfl
@[simp] theorem tz119 : tz Try.prog 119 = some [.nilf] := by kernel_rfl
@[simp] theorem tk120 : tk Try.prog 120 = some (false, 1) := by kernel_rfl
@[simp] theorem ti120 : tint Try.prog 120 = some .u64 := by kernel_rfl
@[simp] theorem to120 : tok Try.prog 120 = true := by kernel_rfl
@[simp] theorem tz120 : tz Try.prog 120 = some [.int .u64 0] := by kernel_rfl
@[simp] theorem tk122 : tk Try.prog 122 = some (false, 1) := by kernel_rfl
@[simp] theorem to122 : tok Try.prog 122 = true := by kernel_rfl
@[simp] theorem tz122 : tz Try.prog 122 = some [.nilf] := by kernel_rfl
@[simp] theorem tk123 : tk Try.prog 123 = some (false, 1) := by kernel_rfl
@[simp] theorem to123 : tok Try.prog 123 = true := by kernel_rfl
@[simp] theorem tz123 : tz Try.prog 123 = some [.nilf] := by kernel_rfl
@[simp] theorem tk131 : tk Try.prog 131 = some (false, 1) := by kernel_rfl
@[simp] theorem to131 : tok Try.prog 131 = true := by kernel_rfl
@[simp] theorem tz131 : tz Try.prog 131 = some [.nilf] := by kernel_rfl
@[simp] theorem tk132 : tk Try.prog 132 = some (false, 1) := by kernel_rfl
@[simp] theorem to132 : tok Try.prog 132 = true := by kernel_rfl
@[simp] theorem tz132 : tz Try.prog 132 = some [.nilp] := by kernel_rfl
end Go.Proofs.Ytgcnlmcpmocbhaa
