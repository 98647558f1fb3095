/- Closed facts on the types of the program. Printed by facts.py. -/
import Derived.Test.YtpmmnnaaoideeaaGreatAmQ
import Derived.Test.YtpmmnnaaoideeaaGreatProg
set_option linter.unusedSimpArgs false
set_option linter.unusedVariables false
namespace Go.Proofs.YtpmmnnaaoideeaaGreat
open Go Go.Am
theorem mixed : Tryz.prog.follows .mixedOrders = true := by kernel_rfl
@[simp] theorem tk1 : tk Tryz.prog 1 = some (false, 1) := by kernel_rfl
@[simp] theorem to1 : tok Tryz.prog 1 = true := by kernel_rfl
@[simp] theorem tz1 : tz Tryz.prog 1 = some [.nilf] := by kernel_rfl
@[simp] theorem tk2 : tk Tryz.prog 2 = some (false, 1) := by kernel_rfl
@[simp] theorem ti2 : tint Tryz.prog 2 = some .i64 := by kernel_rfl
@[simp] theorem to2 : tok Tryz.prog 2 = true := by kernel_rfl
@[simp] theorem tz2 : tz Tryz.prog 2 = some [.int .i64 0] := by kernel_rfl
@[simp] theorem tk3 : tk Tryz.prog 3 = some (false, 1) := by kernel_rfl
@[simp] theorem ti3 : tint Tryz.prog 3 = some .i64 := by kernel_rfl
@[simp] theorem to3 : tok Tryz.prog 3 = true := by kernel_rfl
@[simp] theorem tz3 : tz Tryz.prog 3 = some [.int .i64 0] := by kernel_rfl
@[simp] theorem tk4 : tk Tryz.prog 4 = some (false, 1) := by kernel_rfl
@[simp] theorem to4 : tok Tryz.prog 4 = true := by kernel_rfl
@[simp] theorem tz4 : tz Tryz.prog 4 = some [.bool false] := by kernel_rfl
@[simp] theorem tk5 : tk Tryz.prog 5 = some (false, 1) := by kernel_rfl
@[simp] theorem ti5 : tint Tryz.prog 5 = some .u8 := by kernel_rfl
@[simp] theorem to5 : tok Tryz.prog 5 = true := by kernel_rfl
@[simp] theorem tz5 : tz Tryz.prog 5 = some [.int .u8 0] := by kernel_rfl
@[simp] theorem tk12 : tk Tryz.prog 12 = some (false, 1) := by kernel_rfl
@[simp] theorem ti12 : tint Tryz.prog 12 = some .u64 := by kernel_rfl
@[simp] theorem to12 : tok Tryz.prog 12 = true := by kernel_rfl
@[simp] theorem tz12 : tz Tryz.prog 12 = some [.int .u64 0] := by kernel_rfl
@[simp] theorem tk13 : tk Tryz.prog 13 = some (true, 2) := by kernel_rfl
@[simp] theorem to13 : tok Tryz.prog 13 = true := by kernel_rfl
@[simp] theorem tf13_0 : tf Tryz.prog 13 0 = some (0, 1, false) := by kernel_rfl
@[simp] theorem tf13_1 : tf Tryz.prog 13 1 = some (1, 1, false) := by kernel_rfl
@[simp] theorem tb13 : bplan Tryz.prog 13 = some ([(0, 1), (1, 1)], [.undef, .int .u64 0]) := by kernel_rfl
@[simp] theorem tz13 : tz Tryz.prog 13 = some [.undef, .int .u64 0] := by kernel_rfl
@[simp] theorem tk21 : tk Tryz.prog 21 = some (false, 1) := by kernel_rfl
@[simp] theorem ti21 : tint Tryz.prog 21 = some .i32 := by kernel_rfl
@[simp] theorem to21 : tok Tryz.prog 21 = true := by kernel_rfl
@[simp] theorem tz21 : tz Tryz.prog 21 = some [.int .i32 0] := by kernel_rfl
@[simp] theorem tk22 : tk Tryz.prog 22 = some (false, 1) := by kernel_rfl
@[simp] theorem to22 : tok Tryz.prog 22 = true := by kernel_rfl
@[simp] theorem te22 : te Tryz.prog 22 = some (13, none) := by kernel_rfl
@[simp] theorem ta22 : tap Tryz.prog 22 = some (13, 104) := by kernel_rfl
@[simp] theorem tcl22 : tcl Tryz.prog 22 = some 13 := by kernel_rfl
@[simp] theorem ts22 : tze Tryz.prog 22 = some [.int .i64 0, .int .i64 0, .int .i64 0, .int .i64 0, .int .i64 0, .int .i64 0, .int .i64 0, .int .i64 0, .int .i64 0, .int .i64 0, .int .i64 0, .int .i64 0, .int .u32 0] := by kernel_rfl
@[simp] theorem tz22 : tz Tryz.prog 22 = some [.sl 0 [] .full] := by kernel_rfl
@[simp] theorem tk23 : tk Tryz.prog 23 = some (false, 1) := by kernel_rfl
@[simp] theorem to23 : tok Tryz.prog 23 = true := by kernel_rfl
@[simp] theorem te23 : te Tryz.prog 23 = some (12, none) := by kernel_rfl
@[simp] theorem ta23 : tap Tryz.prog 23 = some (12, 136) := by kernel_rfl
@[simp] theorem tcl23 : tcl Tryz.prog 23 = some 12 := by kernel_rfl
@[simp] theorem ts23 : tze Tryz.prog 23 = some [.int .i64 0, .int .i64 0, .int .i64 0, .int .i64 0, .int .i64 0, .int .i64 0, .int .u32 0, .int .u32 0, .int .i64 0, .sl 0 [] .full, .sl 0 [] .full, .sl 0 [] .full] := by kernel_rfl
@[simp] theorem tz23 : tz Tryz.prog 23 = some [.sl 0 [] .full] := by kernel_rfl
@[simp] theorem tk24 : tk Tryz.prog 24 = some (false, 1) := by kernel_rfl
@[simp] theorem to24 : tok Tryz.prog 24 = true := by kernel_rfl
@[simp] theorem te24 : te Tryz.prog 24 = some (1, none) := by kernel_rfl
@[simp] theorem ta24 : tap Tryz.prog 24 = some (1, 8) := by kernel_rfl
@[simp] theorem tcl24 : tcl Tryz.prog 24 = some 1 := by kernel_rfl
@[simp] theorem ts24 : tze Tryz.prog 24 = some [.int .i64 0] := by kernel_rfl
@[simp] theorem tz24 : tz Tryz.prog 24 = some [.sl 0 [] .full] := by kernel_rfl
@[simp] theorem tk25 : tk Tryz.prog 25 = some (false, 1) := by kernel_rfl
@[simp] theorem ti25 : tint Tryz.prog 25 = some .u32 := by kernel_rfl
@[simp] theorem to25 : tok Tryz.prog 25 = true := by kernel_rfl
@[simp] theorem tz25 : tz Tryz.prog 25 = some [.int .u32 0] := by kernel_rfl
@[simp] theorem tk26 : tk Tryz.prog 26 = some (true, 8) := by kernel_rfl
@[simp] theorem to26 : tok Tryz.prog 26 = true := by kernel_rfl
@[simp] theorem tf26_0 : tf Tryz.prog 26 0 = some (0, 1, false) := by kernel_rfl
@[simp] theorem tf26_1 : tf Tryz.prog 26 1 = some (1, 1, false) := by kernel_rfl
@[simp] theorem tf26_2 : tf Tryz.prog 26 2 = some (2, 1, false) := by kernel_rfl
@[simp] theorem tf26_3 : tf Tryz.prog 26 3 = some (3, 1, false) := by kernel_rfl
@[simp] theorem tf26_4 : tf Tryz.prog 26 4 = some (4, 1, false) := by kernel_rfl
@[simp] theorem tf26_5 : tf Tryz.prog 26 5 = some (5, 1, false) := by kernel_rfl
@[simp] theorem tf26_6 : tf Tryz.prog 26 6 = some (6, 1, false) := by kernel_rfl
@[simp] theorem tf26_7 : tf Tryz.prog 26 7 = some (7, 1, false) := by kernel_rfl
@[simp] theorem tb26 : bplan Tryz.prog 26 = some ([(0, 1), (1, 1), (2, 1), (3, 1), (4, 1), (5, 1), (6, 1), (7, 1)], [.int .i64 0, .int .i64 0, .int .i64 0, .int .u32 0, .int .u32 0, .int .i64 0, .sl 0 [] .full, .sl 0 [] .full]) := by kernel_rfl
@[simp] theorem tz26 : tz Tryz.prog 26 = some [.int .i64 0, .int .i64 0, .int .i64 0, .int .u32 0, .int .u32 0, .int .i64 0, .sl 0 [] .full, .sl 0 [] .full] := by kernel_rfl
@[simp] theorem tk27 : tk Tryz.prog 27 = some (true, 8) := by kernel_rfl
@[simp] theorem to27 : tok Tryz.prog 27 = true := by kernel_rfl
@[simp] theorem tf27_0 : tf Tryz.prog 27 0 = some (0, 1, false) := by kernel_rfl
@[simp] theorem tf27_1 : tf Tryz.prog 27 1 = some (1, 1, false) := by kernel_rfl
@[simp] theorem tf27_2 : tf Tryz.prog 27 2 = some (2, 1, false) := by kernel_rfl
@[simp] theorem tf27_3 : tf Tryz.prog 27 3 = some (3, 1, false) := by kernel_rfl
@[simp] theorem tf27_4 : tf Tryz.prog 27 4 = some (4, 1, false) := by kernel_rfl
@[simp] theorem tf27_5 : tf Tryz.prog 27 5 = some (5, 1, false) := by kernel_rfl
@[simp] theorem tf27_6 : tf Tryz.prog 27 6 = some (6, 1, false) := by kernel_rfl
@[simp] theorem tf27_7 : tf Tryz.prog 27 7 = some (7, 1, false) := by kernel_rfl
@[simp] theorem tb27 : bplan Tryz.prog 27 = some ([(0, 1), (1, 1), (2, 1), (3, 1), (4, 1), (5, 1), (6, 1), (7, 1)], [.int .i64 0, .int .i64 0, .int .i64 0, .int .u32 0, .int .u32 0, .int .i64 0, .sl 0 [] .full, .sl 0 [] .full]) := by kernel_rfl
@[simp] theorem tz27 : tz Tryz.prog 27 = some [.int .i64 0, .int .i64 0, .int .i64 0, .int .u32 0, .int .u32 0, .int .i64 0, .sl 0 [] .full, .sl 0 [] .full] := by kernel_rfl
@[simp] theorem tk28 : tk Tryz.prog 28 = some (false, 1) := by kernel_rfl
@[simp] theorem to28 : tok Tryz.prog 28 = true := by kernel_rfl
@[simp] theorem tz28 : tz Tryz.prog 28 = some [.nilf] := by kernel_rfl
@[simp] theorem tk29 : tk Tryz.prog 29 = some (false, 1) := by kernel_rfl
@[simp] theorem ti29 : tint Tryz.prog 29 = some .i64 := by kernel_rfl
@[simp] theorem to29 : tok Tryz.prog 29 = true := by kernel_rfl
@[simp] theorem tz29 : tz Tryz.prog 29 = some [.int .i64 0] := by kernel_rfl
@[simp] theorem tk30 : tk Tryz.prog 30 = some (false, 1) := by kernel_rfl
@[simp] theorem to30 : tok Tryz.prog 30 = true := by kernel_rfl
@[simp] theorem tz30 : tz Tryz.prog 30 = some [.nilf] := by kernel_rfl
@[simp] theorem tk31 : tk Tryz.prog 31 = some (false, 1) := by kernel_rfl
@[simp] theorem to31 : tok Tryz.prog 31 = true := by kernel_rfl
@[simp] theorem tz31 : tz Tryz.prog 31 = some [.nilf] := by kernel_rfl
@[simp] theorem tk33 : tk Tryz.prog 33 = some (false, 1) := by kernel_rfl
@[simp] theorem to33 : tok Tryz.prog 33 = true := by kernel_rfl
@[simp] theorem tz33 : tz Tryz.prog 33 = some [.nilf] := by kernel_rfl
@[simp] theorem tk34 : tk Tryz.prog 34 = some (false, 1) := by kernel_rfl
@[simp] theorem to34 : tok Tryz.prog 34 = true := by kernel_rfl
@[simp] theorem tz34 : tz Tryz.prog 34 = some [.nilf] := by kernel_rfl
@[simp] theorem tk35 : tk Tryz.prog 35 = some (true, 12) := by kernel_rfl
@[simp] theorem to35 : tok Tryz.prog 35 = true := by kernel_rfl
@[simp] theorem tf35_0 : tf Tryz.prog 35 0 = some (0, 1, false) := by kernel_rfl
@[simp] theorem tf35_1 : tf Tryz.prog 35 1 = some (1, 1, false) := by kernel_rfl
@[simp] theorem tf35_2 : tf Tryz.prog 35 2 = some (2, 1, false) := by kernel_rfl
@[simp] theorem tf35_3 : tf Tryz.prog 35 3 = some (3, 8, true) := by kernel_rfl
@[simp] theorem tf35_4 : tf Tryz.prog 35 4 = some (11, 1, false) := by kernel_rfl
@[simp] theorem tb35 : bplan Tryz.prog 35 = some ([(0, 1), (1, 1), (2, 1), (3, 8), (11, 1)], [.int .i64 0, .int .i64 0, .int .i64 0, .int .i64 0, .int .i64 0, .int .i64 0, .int .u32 0, .int .u32 0, .int .i64 0, .sl 0 [] .full, .sl 0 [] .full, .sl 0 [] .full]) := by kernel_rfl
@[simp] theorem tz35 : tz Tryz.prog 35 = some [.int .i64 0, .int .i64 0, .int .i64 0, .int .i64 0, .int .i64 0, .int .i64 0, .int .u32 0, .int .u32 0, .int .i64 0, .sl 0 [] .full, .sl 0 [] .full, .sl 0 [] .full] := by kernel_rfl
@[simp] theorem tk36 : tk Tryz.prog 36 = some (true, 12) := by kernel_rfl
@[simp] theorem to36 : tok Tryz.prog 36 = true := by kernel_rfl
@[simp] theorem tf36_0 : tf Tryz.prog 36 0 = some (0, 1, false) := by kernel_rfl
@[simp] theorem tf36_1 : tf Tryz.prog 36 1 = some (1, 1, false) := by kernel_rfl
@[simp] theorem tf36_2 : tf Tryz.prog 36 2 = some (2, 1, false) := by kernel_rfl
@[simp] theorem tf36_3 : tf Tryz.prog 36 3 = some (3, 8, true) := by kernel_rfl
@[simp] theorem tf36_4 : tf Tryz.prog 36 4 = some (11, 1, false) := by kernel_rfl
@[simp] theorem tb36 : bplan Tryz.prog 36 = some ([(0, 1), (1, 1), (2, 1), (3, 8), (11, 1)], [.int .i64 0, .int .i64 0, .int .i64 0, .int .i64 0, .int .i64 0, .int .i64 0, .int .u32 0, .int .u32 0, .int .i64 0, .sl 0 [] .full, .sl 0 [] .full, .sl 0 [] .full]) := by kernel_rfl
@[simp] theorem tz36 : tz Tryz.prog 36 = some [.int .i64 0, .int .i64 0, .int .i64 0, .int .i64 0, .int .i64 0, .int .i64 0, .int .u32 0, .int .u32 0, .int .i64 0, .sl 0 [] .full, .sl 0 [] .full, .sl 0 [] .full] := by kernel_rfl
@[simp] theorem tk37 : tk Tryz.prog 37 = some (false, 1) := by kernel_rfl
@[simp] theorem to37 : tok Tryz.prog 37 = true := by kernel_rfl
@[simp] theorem tz37 : tz Tryz.prog 37 = some [.nilf] := by kernel_rfl
@[simp] theorem tk39 : tk Tryz.prog 39 = some (false, 1) := by kernel_rfl
@[simp] theorem to39 : tok Tryz.prog 39 = true := by kernel_rfl
@[simp] theorem tz39 : tz Tryz.prog 39 = some [.nilf] := by kernel_rfl
@[simp] theorem tk40 : tk Tryz.prog 40 = some (false, 1) := by kernel_rfl
@[simp] theorem to40 : tok Tryz.prog 40 = true := by kernel_rfl
@[simp] theorem tz40 : tz Tryz.prog 40 = some [.nilf] := by kernel_rfl
@[simp] theorem tk41 : tk Tryz.prog 41 = some (false, 1) := by kernel_rfl
@[simp] theorem to41 : tok Tryz.prog 41 = true := by kernel_rfl
@[simp] theorem tz41 : tz Tryz.prog 41 = some [.nilf] := by kernel_rfl
@[simp] theorem tk42 : tk Tryz.prog 42 = some (false, 1) := by kernel_rfl
@[simp] theorem to42 : tok Tryz.prog 42 = true := by kernel_rfl
@[simp] theorem tz42 : tz Tryz.prog 42 = some [.nilf] := by kernel_rfl
@[simp] theorem tk44 : tk Tryz.prog 44 = some (false, 1) := by kernel_rfl
@[simp] theorem to44 : tok Tryz.prog 44 = true := by kernel_rfl
@[simp] theorem tz44 : tz Tryz.prog 44 = some [.nilf] := by kernel_rfl
@[simp] theorem tk45 : tk Tryz.prog 45 = some (false, 1) := by kernel_rfl
@[simp] theorem to45 : tok Tryz.prog 45 = true := by kernel_rfl
@[simp] theorem tz45 : tz Tryz.prog 45 = some [.nilf] := by kernel_rfl
@[simp] theorem tk46 : tk Tryz.prog 46 = some (false, 1) := by kernel_rfl
@[simp] theorem to46 : tok Tryz.prog 46 = true := by kernel_rfl
@[simp] theorem tz46 : tz Tryz.prog 46 = some [.nilf] := by kernel_rfl
@[simp] theorem tk47 : tk Tryz.prog 47 = some (false, 1) := by kernel_rfl
@[simp] theorem to47 : tok Tryz.prog 47 = true := by kernel_rfl
@[simp] theorem tz47 : tz Tryz.prog 47 = some [.nilf] := by kernel_rfl
@[simp] theorem tk49 : tk Tryz.prog 49 = some (false, 1) := by kernel_rfl
@[simp] theorem to49 : tok Tryz.prog 49 = true := by kernel_rfl
@[simp] theorem tz49 : tz Tryz.prog 49 = some [.nilf] := by kernel_rfl
@[simp] theorem tk50 : tk Tryz.prog 50 = some (false, 1) := by kernel_rfl
@[simp] theorem to50 : tok Tryz.prog 50 = true := by kernel_rfl
@[simp] theorem tz50 : tz Tryz.prog 50 = some [.nilf] := by kernel_rfl
@[simp] theorem tk51 : tk Tryz.prog 51 = some (false, 1) := by kernel_rfl
@[simp] theorem to51 : tok Tryz.prog 51 = true := by kernel_rfl
@[simp] theorem tz51 : tz Tryz.prog 51 = some [.nilf] := by kernel_rfl
@[simp] theorem tk52 : tk Tryz.prog 52 = some (false, 1) := by kernel_rfl
@[simp] theorem to52 : tok Tryz.prog 52 = true := by kernel_rfl
@[simp] theorem tz52 : tz Tryz.prog 52 = some [.nilf] := by kernel_rfl
@[simp] theorem tk53 : tk Tryz.prog 53 = some (false, 1) := by kernel_rfl
@[simp] theorem to53 : tok Tryz.prog 53 = true := by kernel_rfl
@[simp] theorem tz53 : tz Tryz.prog 53 = some [.nilf] := by kernel_rfl
@[simp] theorem tk54 : tk Tryz.prog 54 = some (false, 1) := by kernel_rfl
@[simp] theorem to54 : tok Tryz.prog 54 = true := by kernel_rfl
@[simp] theorem tz54 : tz Tryz.prog 54 = some [.nilf] := by kernel_rfl
@[simp] theorem tk55 : tk Tryz.prog 55 = some (false, 1) := by kernel_rfl
@[simp] theorem to55 : tok Tryz.prog 55 = true := by kernel_rfl
@[simp] theorem tz55 : tz Tryz.prog 55 = some [.nilf] := by kernel_rfl
@[simp] theorem tk56 : tk Tryz.prog 56 = some (true, 8) := by kernel_rfl
@[simp] theorem to56 : tok Tryz.prog 56 = true := by kernel_rfl
@[simp] theorem te56 : te Tryz.prog 56 = some (1, some 8) := by kernel_rfl
@[simp] theorem tq56 : feq Tryz.prog 56 = some [true, true, true, true, true, true, true, true] := by kernel_rfl
@[simp] theorem tx56 : tx Tryz.prog 56 = some 8 := by kernel_rfl
@[simp] theorem tb56 : bplan Tryz.prog 56 = some ([(0, 1), (1, 1), (2, 1), (3, 1), (4, 1), (5, 1), (6, 1), (7, 1)], [.int .i64 0, .int .i64 0, .int .i64 0, .int .i64 0, .int .i64 0, .int .i64 0, .int .i64 0, .int .i64 0]) := by kernel_rfl
@[simp] theorem tz56 : tz Tryz.prog 56 = some [.int .i64 0, .int .i64 0, .int .i64 0, .int .i64 0, .int .i64 0, .int .i64 0, .int .i64 0, .int .i64 0] := by kernel_rfl
@[simp] theorem tk57 : tk Tryz.prog 57 = some (false, 1) := by kernel_rfl
@[simp] theorem to57 : tok Tryz.prog 57 = true := by kernel_rfl
@[simp] theorem tz57 : tz Tryz.prog 57 = some [.nilf] := by kernel_rfl
@[simp] theorem tk58 : tk Tryz.prog 58 = some (true, 13) := by kernel_rfl
@[simp] theorem to58 : tok Tryz.prog 58 = true := by kernel_rfl
@[simp] theorem tf58_0 : tf Tryz.prog 58 0 = some (0, 1, false) := by kernel_rfl
@[simp] theorem tf58_1 : tf Tryz.prog 58 1 = some (1, 1, false) := by kernel_rfl
@[simp] theorem tf58_2 : tf Tryz.prog 58 2 = some (2, 1, false) := by kernel_rfl
@[simp] theorem tf58_3 : tf Tryz.prog 58 3 = some (3, 1, false) := by kernel_rfl
@[simp] theorem tf58_4 : tf Tryz.prog 58 4 = some (4, 8, true) := by kernel_rfl
@[simp] theorem tf58_5 : tf Tryz.prog 58 5 = some (12, 1, false) := by kernel_rfl
@[simp] theorem tq58 : feq Tryz.prog 58 = some [true, true, true, true, true, true, true, true, true, true, true, true, true] := by kernel_rfl
@[simp] theorem tb58 : bplan Tryz.prog 58 = some ([(0, 1), (1, 1), (2, 1), (3, 1), (4, 8), (12, 1)], [.int .i64 0, .int .i64 0, .int .i64 0, .int .i64 0, .int .i64 0, .int .i64 0, .int .i64 0, .int .i64 0, .int .i64 0, .int .i64 0, .int .i64 0, .int .i64 0, .int .u32 0]) := by kernel_rfl
@[simp] theorem tz58 : tz Tryz.prog 58 = some [.int .i64 0, .int .i64 0, .int .i64 0, .int .i64 0, .int .i64 0, .int .i64 0, .int .i64 0, .int .i64 0, .int .i64 0, .int .i64 0, .int .i64 0, .int .i64 0, .int .u32 0] := by kernel_rfl
@[simp] theorem tk59 : tk Tryz.prog 59 = some (true, 13) := by kernel_rfl
@[simp] theorem to59 : tok Tryz.prog 59 = true := by kernel_rfl
@[simp] theorem tf59_0 : tf Tryz.prog 59 0 = some (0, 1, false) := by kernel_rfl
@[simp] theorem tf59_1 : tf Tryz.prog 59 1 = some (1, 1, false) := by kernel_rfl
@[simp] theorem tf59_2 : tf Tryz.prog 59 2 = some (2, 1, false) := by kernel_rfl
@[simp] theorem tf59_3 : tf Tryz.prog 59 3 = some (3, 1, false) := by kernel_rfl
@[simp] theorem tf59_4 : tf Tryz.prog 59 4 = some (4, 8, true) := by kernel_rfl
@[simp] theorem tf59_5 : tf Tryz.prog 59 5 = some (12, 1, false) := by kernel_rfl
@[simp] theorem tq59 : feq Tryz.prog 59 = some [true, true, true, true, true, true, true, true, true, true, true, true, true] := by kernel_rfl
@[simp] theorem tb59 : bplan Tryz.prog 59 = some ([(0, 1), (1, 1), (2, 1), (3, 1), (4, 8), (12, 1)], [.int .i64 0, .int .i64 0, .int .i64 0, .int .i64 0, .int .i64 0, .int .i64 0, .int .i64 0, .int .i64 0, .int .i64 0, .int .i64 0, .int .i64 0, .int .i64 0, .int .u32 0]) := by kernel_rfl
@[simp] theorem tz59 : tz Tryz.prog 59 = some [.int .i64 0, .int .i64 0, .int .i64 0, .int .i64 0, .int .i64 0, .int .i64 0, .int .i64 0, .int .i64 0, .int .i64 0, .int .i64 0, .int .i64 0, .int .i64 0, .int .u32 0] := by kernel_rfl
@[simp] theorem tk60 : tk Tryz.prog 60 = some (false, 1) := by kernel_rfl
@[simp] theorem to60 : tok Tryz.prog 60 = true := by kernel_rfl
@[simp] theorem tz60 : tz Tryz.prog 60 = some [.nilf] := by kernel_rfl
@[simp] theorem tk61 : tk Tryz.prog 61 = some (false, 1) := by kernel_rfl
@[simp] theorem to61 : tok Tryz.prog 61 = true := by kernel_rfl
@[simp] theorem tz61 : tz Tryz.prog 61 = some [.nilf] := by kernel_rfl
@[simp] theorem tk62 : tk Tryz.prog 62 = some (false, 1) := by kernel_rfl
@[simp] theorem to62 : tok Tryz.prog 62 = true := by kernel_rfl
@[simp] theorem tz62 : tz Tryz.prog 62 = some [.nilf] := by kernel_rfl
@[simp] theorem tk63 : tk Tryz.prog 63 = some (false, 1) := by kernel_rfl
@[simp] theorem to63 : tok Tryz.prog 63 = true := by kernel_rfl
@[simp] theorem tz63 : tz Tryz.prog 63 = some [.nilf] := by kernel_rfl
@[simp] theorem tk64 : tk Tryz.prog 64 = some (false, 1) := by kernel_rfl
@[simp] theorem to64 : tok Tryz.prog 64 = true := by kernel_rfl
@[simp] theorem tz64 : tz Tryz.prog 64 = some [.nilf] := by kernel_rfl
@[simp] theorem tk65 : tk Tryz.prog 65 = some (false, 1) := by kernel_rfl
@[simp] theorem to65 : tok Tryz.prog 65 = true := by kernel_rfl
@[simp] theorem tz65 : tz Tryz.prog 65 = some [.nilf] := by kernel_rfl
@[simp] theorem tk66 : tk Tryz.prog 66 = some (false, 1) := by kernel_rfl
@[simp] theorem to66 : tok Tryz.prog 66 = true := by kernel_rfl
@[simp] theorem tz66 : tz Tryz.prog 66 = some [.nilf] := by kernel_rfl
@[simp] theorem tk68 : tk Tryz.prog 68 = some (false, 1) := by kernel_rfl
@[simp] theorem to68 : tok Tryz.prog 68 = true := by kernel_rfl
@[simp] theorem tz68 : tz Tryz.prog 68 = some [.nilf] := by kernel_rfl
@[simp] theorem tk69 : tk Tryz.prog 69 = some (false, 1) := by kernel_rfl
@[simp] theorem to69 : tok Tryz.prog 69 = true := by kernel_rfl
@[simp] theorem tz69 : tz Tryz.prog 69 = some [.nilf] := by kernel_rfl
@[simp] theorem tk70 : tk Tryz.prog 70 = some (false, 1) := by kernel_rfl
@[simp] theorem to70 : tok Tryz.prog 70 = true := by kernel_rfl
@[simp] theorem tz70 : tz Tryz.prog 70 = some [.nilf] := by kernel_rfl
@[simp] theorem tk71 : tk Tryz.prog 71 = some (false, 1) := by kernel_rfl
@[simp] theorem to71 : tok Tryz.prog 71 = true := by kernel_rfl
@[simp] theorem tz71 : tz Tryz.prog 71 = some [.nilf] := by kernel_rfl
@[simp] theorem tk72 : tk Tryz.prog 72 = some (false, 1) := by kernel_rfl
@[simp] theorem to72 : tok Tryz.prog 72 = true := by kernel_rfl
@[simp] theorem tz72 : tz Tryz.prog 72 = some [.nilf] := by kernel_rfl
@[simp] theorem tk73 : tk Tryz.prog 73 = some (false, 1) := by kernel_rfl
@[simp] theorem to73 : tok Tryz.prog 73 = true := by kernel_rfl
@[simp] theorem tz73 : tz Tryz.prog 73 = some [.nilf] := by kernel_rfl
@[simp] theorem tk75 : tk Tryz.prog 75 = some (false, 1) := by kernel_rfl
@[simp] theorem to75 : tok Tryz.prog 75 = true := by kernel_rfl
@[simp] theorem tz75 : tz Tryz.prog 75 = some [.nilf] := by kernel_rfl
@[simp] theorem tk76 : tk Tryz.prog 76 = some (false, 1) := by kernel_rfl
@[simp] theorem to76 : tok Tryz.prog 76 = true := by kernel_rfl
@[simp] theorem tz76 : tz Tryz.prog 76 = some [.nilf] := by kernel_rfl
@[simp] theorem tk78 : tk Tryz.prog 78 = some (false, 1) := by kernel_rfl
@[simp] theorem to78 : tok Tryz.prog 78 = true := by kernel_rfl
@[simp] theorem tz78 : tz Tryz.prog 78 = some [.nilf] := by kernel_rfl
@[simp] theorem tk79 : tk Tryz.prog 79 = some (false, 1) := by kernel_rfl
@[simp] theorem to79 : tok Tryz.prog 79 = true := by kernel_rfl
@[simp] theorem tz79 : tz Tryz.prog 79 = some [.nilf] := by kernel_rfl
@[simp] theorem tk80 : tk Tryz.prog 80 = some (false, 1) := by kernel_rfl
@[simp] theorem to80 : tok Tryz.prog 80 = true := by kernel_rfl
@[simp] theorem tz80 : tz Tryz.prog 80 = some [.nilf] := by kernel_rfl
@[simp] theorem tk81 : tk Tryz.prog 81 = some (false, 1) := by kernel_rfl
@[simp] theorem to81 : tok Tryz.prog 81 = true := by kernel_rfl
@[simp] theorem tz81 : tz Tryz.prog 81 = some [.nilf] := by kernel_rfl
@[simp] theorem tk82 : tk Tryz.prog 82 = some (false, 1) := by kernel_rfl
@[simp] theorem to82 : tok Tryz.prog 82 = true := by kernel_rfl
@[simp] theorem tz82 : tz Tryz.prog 82 = some [.nilf] := by kernel_rfl
@[simp] theorem tk83 : tk Tryz.prog 83 = some (false, 1) := by kernel_rfl
@[simp] theorem to83 : tok Tryz.prog 83 = true := by kernel_rfl
@[simp] theorem tz83 : tz Tryz.prog 83 = some [.nilf] := by kernel_rfl
@[simp] theorem tk84 : tk Tryz.prog 84 = some (false, 1) := by kernel_rfl
@[simp] theorem to84 : tok Tryz.prog 84 = true := by kernel_rfl
@[simp] theorem tz84 : tz Tryz.prog 84 = some [.nilf] := by kernel_rfl
@[simp] theorem tk85 : tk Tryz.prog 85 = some (false, 1) := by kernel_rfl
@[simp] theorem to85 : tok Tryz.prog 85 = true := by kernel_rfl
@[simp] theorem tz85 : tz Tryz.prog 85 = some [.nilf] := by kernel_rfl
@[simp] theorem tk86 : tk Tryz.prog 86 = some (false, 1) := by kernel_rfl
@[simp] theorem to86 : tok Tryz.prog 86 = true := by kernel_rfl
@[simp] theorem tz86 : tz Tryz.prog 86 = some [.nilf] := by kernel_rfl
@[simp] theorem tk87 : tk Tryz.prog 87 = some (false, 1) := by kernel_rfl
@[simp] theorem to87 : tok Tryz.prog 87 = true := by kernel_rfl
@[simp] theorem tz87 : tz Tryz.prog 87 = some [.nilf] := by kernel_rfl
@[simp] theorem tk88 : tk Tryz.prog 88 = some (false, 1) := by kernel_rfl
@[simp] theorem to88 : tok Tryz.prog 88 = true := by kernel_rfl
@[simp] theorem tz88 : tz Tryz.prog 88 = some [.nilf] := by kernel_rfl
@[simp] theorem tk89 : tk Tryz.prog 89 = some (false, 1) := by kernel_rfl
@[simp] theorem to89 : tok Tryz.prog 89 = true := by kernel_rfl
@[simp] theorem tz89 : tz Tryz.prog 89 = some [.nilf] := by kernel_rfl
@[simp] theorem tk90 : tk Tryz.prog 90 = some (false, 1) := by kernel_rfl
@[simp] theorem to90 : tok Tryz.prog 90 = true := by kernel_rfl
@[simp] theorem tz90 : tz Tryz.prog 90 = some [.nilf] := by kernel_rfl
@[simp] theorem tk91 : tk Tryz.prog 91 = some (false, 1) := by kernel_rfl
@[simp] theorem to91 : tok Tryz.prog 91 = true := by kernel_rfl
@[simp] theorem tz91 : tz Tryz.prog 91 = some [.nilf] := by kernel_rfl
@[simp] theorem tk92 : tk Tryz.prog 92 = some (false, 1) := by kernel_rfl
@[simp] theorem to92 : tok Tryz.prog 92 = true := by kernel_rfl
@[simp] theorem tz92 : tz Tryz.prog 92 = some [.nilp] := by kernel_rfl
@[simp] theorem tk93 : tk Tryz.prog 93 = some (true, 4) := by kernel_rfl
@[simp] theorem to93 : tok Tryz.prog 93 = true := by kernel_rfl
@[simp] theorem tf93_0 : tf Tryz.prog 93 0 = some (0, 1, false) := by kernel_rfl
@[simp] theorem tf93_1 : tf Tryz.prog 93 1 = some (1, 1, false) := by kernel_rfl
@[simp] theorem tf93_2 : tf Tryz.prog 93 2 = some (2, 1, false) := by kernel_rfl
@[simp] theorem tf93_3 : tf Tryz.prog 93 3 = some (3, 1, false) := by kernel_rfl
@[simp] theorem tb93 : bplan Tryz.prog 93 = some ([(0, 1), (1, 1), (2, 1), (3, 1)], [.sl 0 [] .full, .sl 0 [] .full, .int .i64 0, .int .i64 0]) := by kernel_rfl
@[simp] theorem tz93 : tz Tryz.prog 93 = some [.sl 0 [] .full, .sl 0 [] .full, .int .i64 0, .int .i64 0] := by kernel_rfl
@[simp] theorem tk94 : tk Tryz.prog 94 = some (true, 4) := by kernel_rfl
@[simp] theorem to94 : tok Tryz.prog 94 = true := by kernel_rfl
@[simp] theorem tf94_0 : tf Tryz.prog 94 0 = some (0, 1, false) := by kernel_rfl
@[simp] theorem tf94_1 : tf Tryz.prog 94 1 = some (1, 1, false) := by kernel_rfl
@[simp] theorem tf94_2 : tf Tryz.prog 94 2 = some (2, 1, false) := by kernel_rfl
@[simp] theorem tf94_3 : tf Tryz.prog 94 3 = some (3, 1, false) := by kernel_rfl
@[simp] theorem tb94 : bplan Tryz.prog 94 = some ([(0, 1), (1, 1), (2, 1), (3, 1)], [.sl 0 [] .full, .sl 0 [] .full, .int .i64 0, .int .i64 0]) := by kernel_rfl
@[simp] theorem tz94 : tz Tryz.prog 94 = some [.sl 0 [] .full, .sl 0 [] .full, .int .i64 0, .int .i64 0] := by kernel_rfl
@[simp] theorem tk95 : tk Tryz.prog 95 = some (false, 1) := by kernel_rfl
@[simp] theorem to95 : tok Tryz.prog 95 = true := by kernel_rfl
@[simp] theorem tz95 : tz Tryz.prog 95 = some [.nilf] := by kernel_rfl
@[simp] theorem tk97 : tk Tryz.prog 97 = some (false, 1) := by kernel_rfl
@[simp] theorem to97 : tok Tryz.prog 97 = true := by kernel_rfl
@[simp] theorem tz97 : tz Tryz.prog 97 = some [.nilf] := by kernel_rfl
@[simp] theorem tk98 : tk Tryz.prog 98 = some (false, 1) := by kernel_rfl
@[simp] theorem to98 : tok Tryz.prog 98 = true := by kernel_rfl
@[simp] theorem tz98 : tz Tryz.prog 98 = some [.nilf] := by kernel_rfl
@[simp] theorem tk99 : tk Tryz.prog 99 = some (true, 8) := by kernel_rfl
@[simp] theorem to99 : tok Tryz.prog 99 = true := by kernel_rfl
@[simp] theorem te99 : te Tryz.prog 99 = some (1, some 8) := by kernel_rfl
@[simp] theorem tq99 : feq Tryz.prog 99 = some [true, true, true, true, true, true, true, true] := by kernel_rfl
@[simp] theorem tx99 : tx Tryz.prog 99 = some 8 := by kernel_rfl
@[simp] theorem tb99 : bplan Tryz.prog 99 = some ([(0, 1), (1, 1), (2, 1), (3, 1), (4, 1), (5, 1), (6, 1), (7, 1)], [.int .i64 0, .int .i64 0, .int .i64 0, .int .i64 0, .int .i64 0, .int .i64 0, .int .i64 0, .int .i64 0]) := by kernel_rfl
@[simp] theorem tz99 : tz Tryz.prog 99 = some [.int .i64 0, .int .i64 0, .int .i64 0, .int .i64 0, .int .i64 0, .int .i64 0, .int .i64 0, .int .i64 0] := by kernel_rfl
@[simp] theorem tk100 : tk Tryz.prog 100 = some (false, 1) := by kernel_rfl
@[simp] theorem to100 : tok Tryz.prog 100 = true := by kernel_rfl
@[simp] theorem tz100 : tz Tryz.prog 100 = some [.nilf] := by kernel_rfl
@[simp] theorem tk101 : tk Tryz.prog 101 = some (false, 1) := by kernel_rfl
@[simp] theorem ti101 : tint Tryz.prog 101 = some .u64 := by kernel_rfl
@[simp] theorem to101 : tok Tryz.prog 101 = true := by kernel_rfl
@[simp] theorem tz101 : tz Tryz.prog 101 = some [.int .u64 0] := by kernel_rfl
@[simp] theorem tk102 : tk Tryz.prog 102 = some (false, 1) := by kernel_rfl
@[simp] theorem to102 : tok Tryz.prog 102 = true := by kernel_rfl
@[simp] theorem tz102 : tz Tryz.prog 102 = some [.nilf] := by kernel_rfl
@[simp] theorem tk103 : tk Tryz.prog 103 = some (true, 3) := by kernel_rfl
@[simp] theorem to103 : tok Tryz.prog 103 = true := by kernel_rfl
@[simp] theorem tf103_0 : tf Tryz.prog 103 0 = some (0, 1, false) := by kernel_rfl
@[simp] theorem tf103_1 : tf Tryz.prog 103 1 = some (1, 1, false) := by kernel_rfl
@[simp] theorem tf103_2 : tf Tryz.prog 103 2 = some (2, 1, false) := by kernel_rfl
@[simp] theorem tb103 : bplan Tryz.prog 103 = some ([(0, 1), (1, 1), (2, 1)], [.sl 0 [] .full, .int .i64 0, .int .i64 0]) := by kernel_rfl
@[simp] theorem tz103 : tz Tryz.prog 103 = some [.sl 0 [] .full, .int .i64 0, .int .i64 0] := by kernel_rfl
@[simp] theorem tk104 : tk Tryz.prog 104 = some (true, 3) := by kernel_rfl
@[simp] theorem to104 : tok Tryz.prog 104 = true := by kernel_rfl
@[simp] theorem tf104_0 : tf Tryz.prog 104 0 = some (0, 1, false) := by kernel_rfl
@[simp] theorem tf104_1 : tf Tryz.prog 104 1 = some (1, 1, false) := by kernel_rfl
@[simp] theorem tf104_2 : tf Tryz.prog 104 2 = some (2, 1, false) := by kernel_rfl
@[simp] theorem tb104 : bplan Tryz.prog 104 = some ([(0, 1), (1, 1), (2, 1)], [.sl 0 [] .full, .int .i64 0, .int .i64 0]) := by kernel_rfl
@[simp] theorem tz104 : tz Tryz.prog 104 = some [.sl 0 [] .full, .int .i64 0, .int .i64 0] := by kernel_rfl
@[simp] theorem tk105 : tk Tryz.prog 105 = some (false, 1) := by kernel_rfl
@[simp] theorem to105 : tok Tryz.prog 105 = true := by kernel_rfl
@[simp] theorem te105 : te Tryz.prog 105 = some (3, none) := by kernel_rfl
@[simp] theorem ta105 : tap Tryz.prog 105 = some (3, 40) := by kernel_rfl
@[simp] theorem tcl105 : tcl Tryz.prog 105 = some 3 := by kernel_rfl
@[simp] theorem ts105 : tze Tryz.prog 105 = some [.sl 0 [] .full, .int .i64 0, .int .i64 0] := by kernel_rfl
@[simp] theorem tz105 : tz Tryz.prog 105 = some [.sl 0 [] .full] := by kernel_rfl
@[simp] theorem tk106 : tk Tryz.prog 106 = some (false, 1) := by kernel_rfl
@[simp] theorem to106 : tok Tryz.prog 106 = true := by kernel_rfl
@[simp] theorem tz106 : tz Tryz.prog 106 = some [.nilf] := by kernel_rfl
@[simp] theorem tk107 : tk Tryz.prog 107 = some (false, 1) := by kernel_rfl
@[simp] theorem to107 : tok Tryz.prog 107 = true := by kernel_rfl
@[simp] theorem tz107 : tz Tryz.prog 107 = some [.nilf] := by kernel_rfl
@[simp] theorem tk108 : tk Tryz.prog 108 = some (false, 1) := by kernel_rfl
@[simp] theorem to108 : tok Tryz.prog 108 = true := by kernel_rfl
@[simp] theorem te108 : te Tryz.prog 108 = some (1, none) := by kernel_rfl
@[simp] theorem ta108 : tap Tryz.prog 108 = some (1, 1) := by kernel_rfl
@[simp] theorem tcl108 : tcl Tryz.prog 108 = some 1 := by kernel_rfl
@[simp] theorem ts108 : tze Tryz.prog 108 = some [.bool false] := by kernel_rfl
@[simp] theorem tz108 : tz Tryz.prog 108 = some [.sl 0 [] .full] := by kernel_rfl
@[simp] theorem tk109 : tk Tryz.prog 109 = some (false, 1) := by kernel_rfl
@[simp] theorem to109 : tok Tryz.prog 109 = true := by kernel_rfl
@[simp] theorem tz109 : tz Tryz.prog 109 = some [.nilf] := by kernel_rfl
@[simp] theorem tk110 : tk Tryz.prog 110 = some (false, 1) := by kernel_rfl
@[simp] theorem to110 : tok Tryz.prog 110 = true := by kernel_rfl
@[simp] theorem tz110 : tz Tryz.prog 110 = some [.nilf] := by kernel_rfl
@[simp] theorem tk111 : tk Tryz.prog 111 = some (false, 1) := by kernel_rfl
@[simp] theorem to111 : tok Tryz.prog 111 = true := by kernel_rfl
@[simp] theorem tz111 : tz Tryz.prog 111 = some [.nilf] := by kernel_rfl
@[simp] theorem tk112 : tk Tryz.prog 112 = some (false, 1) := by kernel_rfl
@[simp] theorem to112 : tok Tryz.prog 112 = true := by kernel_rfl
@[simp] theorem tz112 : tz Tryz.prog 112 = some [.nilf] := by kernel_rfl
@[simp] theorem tk113 : tk Tryz.prog 113 = some (false, 1) := by kernel_rfl
@[simp] theorem to113 : tok Tryz.prog 113 = true := by kernel_rfl
@[simp] theorem tz113 : tz Tryz.prog 113 = some [.nilf] := by kernel_rfl
@[simp] theorem tk114 : tk Tryz.prog 114 = some (false, 1) := by kernel_rfl
@[simp] theorem to114 : tok Tryz.prog 114 = true := by kernel_rfl
@[simp] theorem te114 : te Tryz.prog 114 = some (8, none) := by kernel_rfl
@[simp] theorem ta114 : tap Tryz.prog 114 = some (8, 64) := by kernel_rfl
@[simp] theorem tcl114 : tcl Tryz.prog 114 = some 8 := by kernel_rfl
@[simp] theorem ts114 : tze Tryz.prog 114 = some [.int .i64 0, .int .i64 0, .int .i64 0, .int .i64 0, .int .i64 0, .int .i64 0, .int .i64 0, .int .i64 0] := by kernel_rfl
@[simp] theorem tz114 : tz Tryz.prog 114 = some [.sl 0 [] .full] := by kernel_rfl
@[simp] theorem tk115 : tk Tryz.prog 115 = some (false, 1) := by kernel_rfl
@[simp] theorem to115 : tok Tryz.prog 115 = true := by kernel_rfl
@[simp] theorem te115 : te Tryz.prog 115 = some (2, none) := by kernel_rfl
@[simp] theorem ta115 : tap Tryz.prog 115 = some (2, 16) := by kernel_rfl
@[simp] theorem tcl115 : tcl Tryz.prog 115 = some 2 := by kernel_rfl
@[simp] theorem ts115 : tze Tryz.prog 115 = some [.int .i64 0, .int .i64 0] := by kernel_rfl
@[simp] theorem tz115 : tz Tryz.prog 115 = some [.sl 0 [] .full] := by kernel_rfl
@[simp] theorem tk116 : tk Tryz.prog 116 = some (false, 1) := by kernel_rfl
@[simp] theorem to116 : tok Tryz.prog 116 = true := by kernel_rfl
@[simp] theorem tz116 : tz Tryz.prog 116 = some [.nilf] := by kernel_rfl
@[simp] theorem tk117 : tk Tryz.prog 117 = some (true, 2) := by kernel_rfl
@[simp] theorem to117 : tok Tryz.prog 117 = true := by kernel_rfl
@[simp] theorem te117 : te Tryz.prog 117 = some (1, some 2) := by kernel_rfl
@[simp] theorem tq117 : feq Tryz.prog 117 = some [true, true] := by kernel_rfl
@[simp] theorem tx117 : tx Tryz.prog 117 = some 2 := by kernel_rfl
@[simp] theorem tb117 : bplan Tryz.prog 117 = some ([(0, 1), (1, 1)], [.int .i64 0, .int .i64 0]) := by kernel_rfl
@[simp] theorem tz117 : tz Tryz.prog 117 = some [.int .i64 0, .int .i64 0] := by kernel_rfl
@[simp] theorem tk118 : tk Tryz.prog 118 = some (true, 2) := by kernel_rfl
@[simp] theorem to118 : tok Tryz.prog 118 = true := by kernel_rfl
@[simp] theorem te118 : te Tryz.prog 118 = some (1, some 2) := by kernel_rfl
@[simp] theorem tq118 : feq Tryz.prog 118 = some [true, true] := by kernel_rfl
@[simp] theorem tx118 : tx Tryz.prog 118 = some 2 := by kernel_rfl
@[simp] theorem tb118 : bplan Tryz.prog 118 = some ([(0, 1), (1, 1)], [.int .i64 0, .int .i64 0]) := by kernel_rfl
@[simp] theorem tz118 : tz Tryz.prog 118 = some [.int .i64 0, .int .i64 0] := by kernel_rfl
@[simp] theorem tk119 : tk Tryz.prog 119 = some (false, 1) := by kernel_rfl
@[simp] theorem to119 : tok Tryz.prog 119 = true := by kernel_rfl
@[simp] theorem tz119 : tz Tryz.prog 119 = some [.nilf] := by kernel_rfl
@[simp] theorem tk120 : tk Tryz.prog 120 = some (false, 1) := by kernel_rfl
@[simp] theorem to120 : tok Tryz.prog 120 = true := by kernel_rfl
@[simp] theorem tz120 : tz Tryz.prog 120 = some [.nilf] := by kernel_rfl
@[simp] theorem tk121 : tk Tryz.prog 121 = some (false, 1) := by kernel_rfl
@[simp] theorem to121 : tok Tryz.prog 121 = true := by kernel_rfl
@[simp] theorem tz121 : tz Tryz.prog 121 = some [.nilf] := by kernel_rfl
@[simp] theorem tk122 : tk Tryz.prog 122 = some (false, 1) := by kernel_rfl
@[simp] theorem to122 : tok Tryz.prog 122 = true := by kernel_rfl
@[simp] theorem te122 : te Tryz.prog 122 = some (1, none) := by kernel_rfl
@[simp] theorem ta122 : tap Tryz.prog 122 = some (1, 24) := by kernel_rfl
@[simp] theorem tcl122 : tcl Tryz.prog 122 = some 1 := by kernel_rfl
@[simp] theorem ts122 : tze Tryz.prog 122 = some [.sl 0 [] .full] := by kernel_rfl
@[simp] theorem tz122 : tz Tryz.prog 122 = some [.sl 0 [] .full] := by kernel_rfl
@[simp] theorem tk123 : tk Tryz.prog 123 = some (false, 1) := by kernel_rfl
@[simp] theorem to123 : tok Tryz.prog 123 = true := by kernel_rfl
@[simp] theorem tz123 : tz Tryz.prog 123 = some [.nilf] := by kernel_rfl
@[simp] theorem tk124 : tk Tryz.prog 124 = some (false, 1) := by kernel_rfl
@[simp] theorem to124 : tok Tryz.prog 124 = true := by kernel_rfl
@[simp] theorem tz124 : tz Tryz.prog 124 = some [.nilf] := by kernel_rfl
@[simp] theorem tk125 : tk Tryz.prog 125 = some (false, 1) := by kernel_rfl
@[simp] theorem to125 : tok Tryz.prog 125 = true := by kernel_rfl
@[simp] theorem tz125 : tz Tryz.prog 125 = some [.nilf] := by kernel_rfl
@[simp] theorem tk126 : tk Tryz.prog 126 = some (false, 1) := by kernel_rfl
@[simp] theorem to126 : tok Tryz.prog 126 = true := by kernel_rfl
@[simp] theorem tz126 : tz Tryz.prog 126 = some [.nilf] := by kernel_rfl
@[simp] theorem tk127 : tk Tryz.prog 127 = some (false, 1) := by kernel_rfl
@[simp] theorem to127 : tok Tryz.prog 127 = true := by kernel_rfl
@[simp] theorem tz127 : tz Tryz.prog 127 = some [.nilf] := by kernel_rfl
@[simp] theorem tk128 : tk Tryz.prog 128 = some (false, 1) := by kernel_rfl
@[simp] theorem to128 : tok Tryz.prog 128 = true := by kernel_rfl
@[simp] theorem te128 : te Tryz.prog 128 = some (1, none) := by kernel_rfl
@[simp] theorem ta128 : tap Tryz.prog 128 = some (1, 24) := by kernel_rfl
@[simp] theorem tcl128 : tcl Tryz.prog 128 = some 1 := by kernel_rfl
@[simp] theorem ts128 : tze Tryz.prog 128 = some [.sl 0 [] .full] := by kernel_rfl
@[simp] theorem tz128 : tz Tryz.prog 128 = some [.sl 0 [] .full] := by kernel_rfl
@[simp] theorem tk129 : tk Tryz.prog 129 = some (false, 1) := by kernel_rfl
@[simp] theorem to129 : tok Tryz.prog 129 = true := by kernel_rfl
@[simp] theorem tz129 : tz Tryz.prog 129 = some [.nilf] := by kernel_rfl
@[simp] theorem tk130 : tk Tryz.prog 130 = some (false, 1) := by kernel_rfl
@[simp] theorem to130 : tok Tryz.prog 130 = true := by kernel_rfl
@[simp] theorem tz130 : tz Tryz.prog 130 = some [.nilf] := by kernel_rfl
@[simp] theorem tk131 : tk Tryz.prog 131 = some (false, 1) := by kernel_rfl
@[simp] theorem to131 : tok Tryz.prog 131 = true := by kernel_rfl
@[simp] theorem tz131 : tz Tryz.prog 131 = some [.nilp] := by kernel_rfl
@[simp] theorem tk132 : tk Tryz.prog 132 = some (false, 1) := by kernel_rfl
@[simp] theorem to132 : tok Tryz.prog 132 = true := by kernel_rfl
@[simp] theorem tz132 : tz Tryz.prog 132 = some [.nilf] := by kernel_rfl
@[simp] theorem tk133 : tk Tryz.prog 133 = some (false, 1) := by kernel_rfl
@[simp] theorem to133 : tok Tryz.prog 133 = true := by kernel_rfl
@[simp] theorem tz133 : tz Tryz.prog 133 = some [.nilf] := by kernel_rfl
@[simp] theorem tk135 : tk Tryz.prog 135 = some (false, 1) := by kernel_rfl
@[simp] theorem to135 : tok Tryz.prog 135 = true := by kernel_rfl
@[simp] theorem tz135 : tz Tryz.prog 135 = some [.nilf] := by kernel_rfl
@[simp] theorem tk136 : tk Tryz.prog 136 = some (false, 1) := by kernel_rfl
@[simp] theorem to136 : tok Tryz.prog 136 = true := by kernel_rfl
@[simp] theorem tz136 : tz Tryz.prog 136 = some [.nilf] := by kernel_rfl
@[simp] theorem tk137 : tk Tryz.prog 137 = some (false, 1) := by kernel_rfl
@[simp] theorem to137 : tok Tryz.prog 137 = true := by kernel_rfl
@[simp] theorem tz137 : tz Tryz.prog 137 = some [.nilf] := by kernel_rfl
@[simp] theorem tk138 : tk Tryz.prog 138 = some (false, 1) := by kernel_rfl
@[simp] theorem to138 : tok Tryz.prog 138 = true := by kernel_rfl
@[simp] theorem tz138 : tz Tryz.prog 138 = some [.nilf] := by kernel_rfl
@[simp] theorem tk139 : tk Tryz.prog 139 = some (false, 1) := by kernel_rfl
@[simp] theorem to139 : tok Tryz.prog 139 = true := by kernel_rfl
@[simp] theorem tz139 : tz Tryz.prog 139 = some [.nilf] := by kernel_rfl
@[simp] theorem tk140 : tk Tryz.prog 140 = some (true, 3) := by kernel_rfl
@[simp] theorem to140 : tok Tryz.prog 140 = true := by kernel_rfl
@[simp] theorem tf140_0 : tf Tryz.prog 140 0 = some (0, 1, false) := by kernel_rfl
@[simp] theorem tf140_1 : tf Tryz.prog 140 1 = some (1, 1, false) := by kernel_rfl
@[simp] theorem tf140_2 : tf Tryz.prog 140 2 = some (2, 1, false) := by kernel_rfl
@[simp] theorem tb140 : bplan Tryz.prog 140 = some ([(0, 1), (1, 1), (2, 1)], [.sl 0 [] .full, .sl 0 [] .full, .sl 0 [] .full]) := by kernel_rfl
@[simp] theorem tz140 : tz Tryz.prog 140 = some [.sl 0 [] .full, .sl 0 [] .full, .sl 0 [] .full] := by kernel_rfl
@[simp] theorem tk141 : tk Tryz.prog 141 = some (true, 3) := by kernel_rfl
@[simp] theorem to141 : tok Tryz.prog 141 = true := by kernel_rfl
@[simp] theorem tf141_0 : tf Tryz.prog 141 0 = some (0, 1, false) := by kernel_rfl
@[simp] theorem tf141_1 : tf Tryz.prog 141 1 = some (1, 1, false) := by kernel_rfl
@[simp] theorem tf141_2 : tf Tryz.prog 141 2 = some (2, 1, false) := by kernel_rfl
@[simp] theorem tb141 : bplan Tryz.prog 141 = some ([(0, 1), (1, 1), (2, 1)], [.sl 0 [] .full, .sl 0 [] .full, .sl 0 [] .full]) := by kernel_rfl
@[simp] theorem tz141 : tz Tryz.prog 141 = some [.sl 0 [] .full, .sl 0 [] .full, .sl 0 [] .full] := by kernel_rfl
@[simp] theorem tk142 : tk Tryz.prog 142 = some (false, 1) := by kernel_rfl
@[simp] theorem to142 : tok Tryz.prog 142 = true := by kernel_rfl
@[simp] theorem tz142 : tz Tryz.prog 142 = some [.nilf] := by kernel_rfl
@[simp] theorem tk143 : tk Tryz.prog 143 = some (false, 1) := by kernel_rfl
@[simp] theorem to143 : tok Tryz.prog 143 = true := by kernel_rfl
@[simp] theorem tz143 : tz Tryz.prog 143 = some [.nilf] := by kernel_rfl
@[simp] theorem tk145 : tk Tryz.prog 145 = some (false, 1) := by kernel_rfl
@[simp] theorem to145 : tok Tryz.prog 145 = true := by kernel_rfl
@[simp] theorem tz145 : tz Tryz.prog 145 = some [.nilf] := by kernel_rfl
@[simp] theorem tk147 : tk Tryz.prog 147 = some (false, 1) := by kernel_rfl
@[simp] theorem to147 : tok Tryz.prog 147 = true := by kernel_rfl
@[simp] theorem tz147 : tz Tryz.prog 147 = some [.nilf] := by kernel_rfl
@[simp] theorem tk148 : tk Tryz.prog 148 = some (false, 1) := by kernel_rfl
@[simp] theorem ti148 : tint Tryz.prog 148 = some .u64 := by kernel_rfl
@[simp] theorem to148 : tok Tryz.prog 148 = true := by kernel_rfl
@[simp] theorem tz148 : tz Tryz.prog 148 = some [.int .u64 0] := by kernel_rfl
@[simp] theorem tk150 : tk Tryz.prog 150 = some (false, 1) := by kernel_rfl
@[simp] theorem to150 : tok Tryz.prog 150 = true := by kernel_rfl
@[simp] theorem tz150 : tz Tryz.prog 150 = some [.nilf] := by kernel_rfl
@[simp] theorem tk151 : tk Tryz.prog 151 = some (false, 1) := by kernel_rfl
@[simp] theorem to151 : tok Tryz.prog 151 = true := by kernel_rfl
@[simp] theorem tz151 : tz Tryz.prog 151 = some [.nilf] := by kernel_rfl
@[simp] theorem tk159 : tk Tryz.prog 159 = some (false, 1) := by kernel_rfl
@[simp] theorem to159 : tok Tryz.prog 159 = true := by kernel_rfl
@[simp] theorem tz159 : tz Tryz.prog 159 = some [.nilf] := by kernel_rfl
@[simp] theorem tk160 : tk Tryz.prog 160 = some (false, 1) := by kernel_rfl
@[simp] theorem to160 : tok Tryz.prog 160 = true := by kernel_rfl
@[simp] theorem tz160 : tz Tryz.prog 160 = some [.nilp] := by kernel_rfl
end Go.Proofs.YtpmmnnaaoideeaaGreat
