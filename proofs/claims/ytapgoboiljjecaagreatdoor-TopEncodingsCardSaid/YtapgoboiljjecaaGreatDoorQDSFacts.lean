/- Closed facts on the types of the program. Printed by facts.py. -/
import Derived.Test.YtapgoboiljjecaaGreatDoorAmQ
import Derived.Test.YtapgoboiljjecaaGreatDoorProg
set_option linter.unusedSimpArgs false
set_option linter.unusedVariables false
namespace Go.Proofs.YtapgoboiljjecaaGreatDoor
open Go Go.Am
instance globs:Globs:=⟨fun b=>if b = 0 then [(.u8,224),(.u8,64),(.u8,64),(.u8,64),(.u8,128),(.u8,64),(.u8,64),(.u8,192),(.u8,192),(.u8,128),(.u8,128)] else []⟩
@[simp] theorem globs0:Globs.tab 0 = [(IntKind.u8,(224:Int)),(.u8,64),(.u8,64),(.u8,64),(.u8,128),(.u8,64),(.u8,64),(.u8,192),(.u8,192),(.u8,128),(.u8,128)]:=rfl
theorem mixed:Tryz.prog.follows .mixedOrders = true:=by kernel_rfl
@[simp] theorem tk1:tk Tryz.prog 1 = some (false,1):=by kernel_rfl
@[simp] theorem to1:tok Tryz.prog 1 = true:=by kernel_rfl
@[simp] theorem tz1:tz Tryz.prog 1 = some [.nilf]:=by kernel_rfl
@[simp] theorem tk2:tk Tryz.prog 2 = some (false,1):=by kernel_rfl
@[simp] theorem ti2:tint Tryz.prog 2 = some .i64:=by kernel_rfl
@[simp] theorem to2:tok Tryz.prog 2 = true:=by kernel_rfl
@[simp] theorem tz2:tz Tryz.prog 2 = some [.int .i64 0]:=by kernel_rfl
@[simp] theorem tk3:tk Tryz.prog 3 = some (false,1):=by kernel_rfl
@[simp] theorem ti3:tint Tryz.prog 3 = some .i64:=by kernel_rfl
@[simp] theorem to3:tok Tryz.prog 3 = true:=by kernel_rfl
@[simp] theorem tz3:tz Tryz.prog 3 = some [.int .i64 0]:=by kernel_rfl
@[simp] theorem tk4:tk Tryz.prog 4 = some (false,1):=by kernel_rfl
@[simp] theorem to4:tok Tryz.prog 4 = true:=by kernel_rfl
@[simp] theorem tz4:tz Tryz.prog 4 = some [.bool false]:=by kernel_rfl
@[simp] theorem tk5:tk Tryz.prog 5 = some (false,1):=by kernel_rfl
@[simp] theorem ti5:tint Tryz.prog 5 = some .u8:=by kernel_rfl
@[simp] theorem to5:tok Tryz.prog 5 = true:=by kernel_rfl
@[simp] theorem tz5:tz Tryz.prog 5 = some [.int .u8 0]:=by kernel_rfl
@[simp] theorem tk12:tk Tryz.prog 12 = some (false,1):=by kernel_rfl
@[simp] theorem ti12:tint Tryz.prog 12 = some .u64:=by kernel_rfl
@[simp] theorem to12:tok Tryz.prog 12 = true:=by kernel_rfl
@[simp] theorem tz12:tz Tryz.prog 12 = some [.int .u64 0]:=by kernel_rfl
@[simp] theorem tk13:tk Tryz.prog 13 = some (true,2):=by kernel_rfl
@[simp] theorem to13:tok Tryz.prog 13 = true:=by kernel_rfl
@[simp] theorem tf13_0:tf Tryz.prog 13 0 = some (0,1,false):=by kernel_rfl
@[simp] theorem tf13_1:tf Tryz.prog 13 1 = some (1,1,false):=by kernel_rfl
@[simp] theorem tb13:bplan Tryz.prog 13 = some ([(0,1),(1,1)],[.undef,.int .u64 0]):=by kernel_rfl
@[simp] theorem tz13:tz Tryz.prog 13 = some [.undef,.int .u64 0]:=by kernel_rfl
@[simp] theorem tk21:tk Tryz.prog 21 = some (false,1):=by kernel_rfl
@[simp] theorem ti21:tint Tryz.prog 21 = some .i32:=by kernel_rfl
@[simp] theorem to21:tok Tryz.prog 21 = true:=by kernel_rfl
@[simp] theorem tz21:tz Tryz.prog 21 = some [.int .i32 0]:=by kernel_rfl
@[simp] theorem tk22:tk Tryz.prog 22 = some (false,1):=by kernel_rfl
@[simp] theorem to22:tok Tryz.prog 22 = true:=by kernel_rfl
@[simp] theorem te22:te Tryz.prog 22 = some (1,none):=by kernel_rfl
@[simp] theorem ta22:tap Tryz.prog 22 = some (1,1):=by kernel_rfl
@[simp] theorem tcl22:tcl Tryz.prog 22 = some 1:=by kernel_rfl
@[simp] theorem ts22:tze Tryz.prog 22 = some [.int .u8 0]:=by kernel_rfl
@[simp] theorem tz22:tz Tryz.prog 22 = some [.sl 0 [] .full]:=by kernel_rfl
@[simp] theorem tk23:tk Tryz.prog 23 = some (false,1):=by kernel_rfl
@[simp] theorem to23:tok Tryz.prog 23 = true:=by kernel_rfl
@[simp] theorem tz23:tz Tryz.prog 23 = some [.nilf]:=by kernel_rfl
@[simp] theorem tk24:tk Tryz.prog 24 = some (false,1):=by kernel_rfl
@[simp] theorem ti24:tint Tryz.prog 24 = some .u32:=by kernel_rfl
@[simp] theorem to24:tok Tryz.prog 24 = true:=by kernel_rfl
@[simp] theorem tz24:tz Tryz.prog 24 = some [.int .u32 0]:=by kernel_rfl
@[simp] theorem tk25:tk Tryz.prog 25 = some (false,1):=by kernel_rfl
@[simp] theorem ti25:tint Tryz.prog 25 = some .u32:=by kernel_rfl
@[simp] theorem to25:tok Tryz.prog 25 = true:=by kernel_rfl
@[simp] theorem tz25:tz Tryz.prog 25 = some [.int .u32 0]:=by kernel_rfl
@[simp] theorem tk26:tk Tryz.prog 26 = some (false,1):=by kernel_rfl
@[simp] theorem to26:tok Tryz.prog 26 = true:=by kernel_rfl
@[simp] theorem te26:te Tryz.prog 26 = some (1,none):=by kernel_rfl
@[simp] theorem ta26:tap Tryz.prog 26 = some (1,4):=by kernel_rfl
@[simp] theorem tcl26:tcl Tryz.prog 26 = some 1:=by kernel_rfl
@[simp] theorem ts26:tze Tryz.prog 26 = some [.int .u32 0]:=by kernel_rfl
@[simp] theorem tz26:tz Tryz.prog 26 = some [.sl 0 [] .full]:=by kernel_rfl
@[simp] theorem tk27:tk Tryz.prog 27 = some (true,7):=by kernel_rfl
@[simp] theorem to27:tok Tryz.prog 27 = true:=by kernel_rfl
@[simp] theorem tf27_0:tf Tryz.prog 27 0 = some (0,1,false):=by kernel_rfl
@[simp] theorem tf27_1:tf Tryz.prog 27 1 = some (1,1,false):=by kernel_rfl
@[simp] theorem tf27_2:tf Tryz.prog 27 2 = some (2,1,false):=by kernel_rfl
@[simp] theorem tf27_3:tf Tryz.prog 27 3 = some (3,1,false):=by kernel_rfl
@[simp] theorem tf27_4:tf Tryz.prog 27 4 = some (4,1,false):=by kernel_rfl
@[simp] theorem tf27_5:tf Tryz.prog 27 5 = some (5,1,false):=by kernel_rfl
@[simp] theorem tf27_6:tf Tryz.prog 27 6 = some (6,1,false):=by kernel_rfl
@[simp] theorem tb27:bplan Tryz.prog 27 = some ([(0,1),(1,1),(2,1),(3,1),(4,1),(5,1),(6,1)],[.int .i64 0,.int .i64 0,.int .i64 0,.int .i64 0,.int .u32 0,.int .u32 0,.sl 0 [] .full]):=by kernel_rfl
@[simp] theorem tz27:tz Tryz.prog 27 = some [.int .i64 0,.int .i64 0,.int .i64 0,.int .i64 0,.int .u32 0,.int .u32 0,.sl 0 [] .full]:=by kernel_rfl
@[simp] theorem tk28:tk Tryz.prog 28 = some (true,7):=by kernel_rfl
@[simp] theorem to28:tok Tryz.prog 28 = true:=by kernel_rfl
@[simp] theorem tf28_0:tf Tryz.prog 28 0 = some (0,1,false):=by kernel_rfl
@[simp] theorem tf28_1:tf Tryz.prog 28 1 = some (1,1,false):=by kernel_rfl
@[simp] theorem tf28_2:tf Tryz.prog 28 2 = some (2,1,false):=by kernel_rfl
@[simp] theorem tf28_3:tf Tryz.prog 28 3 = some (3,1,false):=by kernel_rfl
@[simp] theorem tf28_4:tf Tryz.prog 28 4 = some (4,1,false):=by kernel_rfl
@[simp] theorem tf28_5:tf Tryz.prog 28 5 = some (5,1,false):=by kernel_rfl
@[simp] theorem tf28_6:tf Tryz.prog 28 6 = some (6,1,false):=by kernel_rfl
@[simp] theorem tb28:bplan Tryz.prog 28 = some ([(0,1),(1,1),(2,1),(3,1),(4,1),(5,1),(6,1)],[.int .i64 0,.int .i64 0,.int .i64 0,.int .i64 0,.int .u32 0,.int .u32 0,.sl 0 [] .full]):=by kernel_rfl
@[simp] theorem tz28:tz Tryz.prog 28 = some [.int .i64 0,.int .i64 0,.int .i64 0,.int .i64 0,.int .u32 0,.int .u32 0,.sl 0 [] .full]:=by kernel_rfl
@[simp] theorem tk29:tk Tryz.prog 29 = some (false,1):=by kernel_rfl
@[simp] theorem to29:tok Tryz.prog 29 = true:=by kernel_rfl
@[simp] theorem te29:te Tryz.prog 29 = some (7,none):=by kernel_rfl
@[simp] theorem ta29:tap Tryz.prog 29 = some (7,56):=by kernel_rfl
@[simp] theorem tcl29:tcl Tryz.prog 29 = some 7:=by kernel_rfl
@[simp] theorem ts29:tze Tryz.prog 29 = some [.int .i64 0,.int .u32 0,.int .i64 0,.int .u32 0,.int .i64 0,.int .i64 0,.int .i64 0]:=by kernel_rfl
@[simp] theorem tz29:tz Tryz.prog 29 = some [.sl 0 [] .full]:=by kernel_rfl
@[simp] theorem tk30:tk Tryz.prog 30 = some (false,1):=by kernel_rfl
@[simp] theorem to30:tok Tryz.prog 30 = true:=by kernel_rfl
@[simp] theorem te30:te Tryz.prog 30 = some (4,none):=by kernel_rfl
@[simp] theorem ta30:tap Tryz.prog 30 = some (4,32):=by kernel_rfl
@[simp] theorem tcl30:tcl Tryz.prog 30 = some 4:=by kernel_rfl
@[simp] theorem ts30:tze Tryz.prog 30 = some [.int .i64 0,.int .u32 0,.int .i64 0,.int .u32 0]:=by kernel_rfl
@[simp] theorem tz30:tz Tryz.prog 30 = some [.sl 0 [] .full]:=by kernel_rfl
@[simp] theorem tk31:tk Tryz.prog 31 = some (false,1):=by kernel_rfl
@[simp] theorem to31:tok Tryz.prog 31 = true:=by kernel_rfl
@[simp] theorem te31:te Tryz.prog 31 = some (15,none):=by kernel_rfl
@[simp] theorem ta31:tap Tryz.prog 31 = some (15,136):=by kernel_rfl
@[simp] theorem tcl31:tcl Tryz.prog 31 = some 15:=by kernel_rfl
@[simp] theorem ts31:tze Tryz.prog 31 = some [.int .i64 0,.int .u32 0,.int .i64 0,.int .u32 0,.int .i64 0,.int .i64 0,.int .i64 0,.bool false,.bool false,.sl 0 [] .full,.sl 0 [] .full,.int .i64 0,.bool false,.int .u32 0,.int .i64 0]:=by kernel_rfl
@[simp] theorem tz31:tz Tryz.prog 31 = some [.sl 0 [] .full]:=by kernel_rfl
@[simp] theorem tk32:tk Tryz.prog 32 = some (true,18):=by kernel_rfl
@[simp] theorem to32:tok Tryz.prog 32 = true:=by kernel_rfl
@[simp] theorem tf32_0:tf Tryz.prog 32 0 = some (0,1,false):=by kernel_rfl
@[simp] theorem tf32_1:tf Tryz.prog 32 1 = some (1,1,false):=by kernel_rfl
@[simp] theorem tf32_2:tf Tryz.prog 32 2 = some (2,1,false):=by kernel_rfl
@[simp] theorem tf32_3:tf Tryz.prog 32 3 = some (3,1,false):=by kernel_rfl
@[simp] theorem tf32_4:tf Tryz.prog 32 4 = some (4,7,true):=by kernel_rfl
@[simp] theorem tf32_5:tf Tryz.prog 32 5 = some (11,1,false):=by kernel_rfl
@[simp] theorem tf32_6:tf Tryz.prog 32 6 = some (12,1,false):=by kernel_rfl
@[simp] theorem tf32_7:tf Tryz.prog 32 7 = some (13,1,false):=by kernel_rfl
@[simp] theorem tf32_8:tf Tryz.prog 32 8 = some (14,1,false):=by kernel_rfl
@[simp] theorem tf32_9:tf Tryz.prog 32 9 = some (15,1,false):=by kernel_rfl
@[simp] theorem tf32_10:tf Tryz.prog 32 10 = some (16,1,false):=by kernel_rfl
@[simp] theorem tf32_11:tf Tryz.prog 32 11 = some (17,1,false):=by kernel_rfl
@[simp] theorem tb32:bplan Tryz.prog 32 = some ([(0,1),(1,1),(2,1),(3,1),(4,7),(11,1),(12,1),(13,1),(14,1),(15,1),(16,1),(17,1)],[.int .i64 0,.int .u32 0,.int .u32 0,.int .u32 0,.int .i64 0,.int .i64 0,.int .i64 0,.int .i64 0,.int .u32 0,.int .u32 0,.sl 0 [] .full,.int .i64 0,.bool false,.bool false,.bool false,.sl 0 [] .full,.sl 0 [] .full,.sl 0 [] .full]):=by kernel_rfl
@[simp] theorem tz32:tz Tryz.prog 32 = some [.int .i64 0,.int .u32 0,.int .u32 0,.int .u32 0,.int .i64 0,.int .i64 0,.int .i64 0,.int .i64 0,.int .u32 0,.int .u32 0,.sl 0 [] .full,.int .i64 0,.bool false,.bool false,.bool false,.sl 0 [] .full,.sl 0 [] .full,.sl 0 [] .full]:=by kernel_rfl
@[simp] theorem tk33:tk Tryz.prog 33 = some (true,18):=by kernel_rfl
@[simp] theorem to33:tok Tryz.prog 33 = true:=by kernel_rfl
@[simp] theorem tf33_0:tf Tryz.prog 33 0 = some (0,1,false):=by kernel_rfl
@[simp] theorem tf33_1:tf Tryz.prog 33 1 = some (1,1,false):=by kernel_rfl
@[simp] theorem tf33_2:tf Tryz.prog 33 2 = some (2,1,false):=by kernel_rfl
@[simp] theorem tf33_3:tf Tryz.prog 33 3 = some (3,1,false):=by kernel_rfl
@[simp] theorem tf33_4:tf Tryz.prog 33 4 = some (4,7,true):=by kernel_rfl
@[simp] theorem tf33_5:tf Tryz.prog 33 5 = some (11,1,false):=by kernel_rfl
@[simp] theorem tf33_6:tf Tryz.prog 33 6 = some (12,1,false):=by kernel_rfl
@[simp] theorem tf33_7:tf Tryz.prog 33 7 = some (13,1,false):=by kernel_rfl
@[simp] theorem tf33_8:tf Tryz.prog 33 8 = some (14,1,false):=by kernel_rfl
@[simp] theorem tf33_9:tf Tryz.prog 33 9 = some (15,1,false):=by kernel_rfl
@[simp] theorem tf33_10:tf Tryz.prog 33 10 = some (16,1,false):=by kernel_rfl
@[simp] theorem tf33_11:tf Tryz.prog 33 11 = some (17,1,false):=by kernel_rfl
@[simp] theorem tb33:bplan Tryz.prog 33 = some ([(0,1),(1,1),(2,1),(3,1),(4,7),(11,1),(12,1),(13,1),(14,1),(15,1),(16,1),(17,1)],[.int .i64 0,.int .u32 0,.int .u32 0,.int .u32 0,.int .i64 0,.int .i64 0,.int .i64 0,.int .i64 0,.int .u32 0,.int .u32 0,.sl 0 [] .full,.int .i64 0,.bool false,.bool false,.bool false,.sl 0 [] .full,.sl 0 [] .full,.sl 0 [] .full]):=by kernel_rfl
@[simp] theorem tz33:tz Tryz.prog 33 = some [.int .i64 0,.int .u32 0,.int .u32 0,.int .u32 0,.int .i64 0,.int .i64 0,.int .i64 0,.int .i64 0,.int .u32 0,.int .u32 0,.sl 0 [] .full,.int .i64 0,.bool false,.bool false,.bool false,.sl 0 [] .full,.sl 0 [] .full,.sl 0 [] .full]:=by kernel_rfl
@[simp] theorem tk34:tk Tryz.prog 34 = some (false,1):=by kernel_rfl
@[simp] theorem ti34:tint Tryz.prog 34 = some .i64:=by kernel_rfl
@[simp] theorem to34:tok Tryz.prog 34 = true:=by kernel_rfl
@[simp] theorem tz34:tz Tryz.prog 34 = some [.int .i64 0]:=by kernel_rfl
@[simp] theorem tk36:tk Tryz.prog 36 = some (false,1):=by kernel_rfl
@[simp] theorem to36:tok Tryz.prog 36 = true:=by kernel_rfl
@[simp] theorem tz36:tz Tryz.prog 36 = some [.nilf]:=by kernel_rfl
@[simp] theorem tk38:tk Tryz.prog 38 = some (false,1):=by kernel_rfl
@[simp] theorem to38:tok Tryz.prog 38 = true:=by kernel_rfl
@[simp] theorem tz38:tz Tryz.prog 38 = some [.nilf]:=by kernel_rfl
@[simp] theorem tk39:tk Tryz.prog 39 = some (false,1):=by kernel_rfl
@[simp] theorem to39:tok Tryz.prog 39 = true:=by kernel_rfl
@[simp] theorem tz39:tz Tryz.prog 39 = some [.nilf]:=by kernel_rfl
@[simp] theorem tk40:tk Tryz.prog 40 = some (true,7):=by kernel_rfl
@[simp] theorem to40:tok Tryz.prog 40 = true:=by kernel_rfl
@[simp] theorem tf40_0:tf Tryz.prog 40 0 = some (0,1,false):=by kernel_rfl
@[simp] theorem tf40_1:tf Tryz.prog 40 1 = some (1,1,false):=by kernel_rfl
@[simp] theorem tf40_2:tf Tryz.prog 40 2 = some (2,1,false):=by kernel_rfl
@[simp] theorem tf40_3:tf Tryz.prog 40 3 = some (3,1,false):=by kernel_rfl
@[simp] theorem tf40_4:tf Tryz.prog 40 4 = some (4,1,false):=by kernel_rfl
@[simp] theorem tf40_5:tf Tryz.prog 40 5 = some (5,1,false):=by kernel_rfl
@[simp] theorem tf40_6:tf Tryz.prog 40 6 = some (6,1,false):=by kernel_rfl
@[simp] theorem tq40:feq Tryz.prog 40 = some [true,true,true,true,true,true,true]:=by kernel_rfl
@[simp] theorem tb40:bplan Tryz.prog 40 = some ([(0,1),(1,1),(2,1),(3,1),(4,1),(5,1),(6,1)],[.int .i64 0,.int .u32 0,.int .i64 0,.int .u32 0,.int .i64 0,.int .i64 0,.int .i64 0]):=by kernel_rfl
@[simp] theorem tz40:tz Tryz.prog 40 = some [.int .i64 0,.int .u32 0,.int .i64 0,.int .u32 0,.int .i64 0,.int .i64 0,.int .i64 0]:=by kernel_rfl
@[simp] theorem tk41:tk Tryz.prog 41 = some (true,7):=by kernel_rfl
@[simp] theorem to41:tok Tryz.prog 41 = true:=by kernel_rfl
@[simp] theorem tf41_0:tf Tryz.prog 41 0 = some (0,1,false):=by kernel_rfl
@[simp] theorem tf41_1:tf Tryz.prog 41 1 = some (1,1,false):=by kernel_rfl
@[simp] theorem tf41_2:tf Tryz.prog 41 2 = some (2,1,false):=by kernel_rfl
@[simp] theorem tf41_3:tf Tryz.prog 41 3 = some (3,1,false):=by kernel_rfl
@[simp] theorem tf41_4:tf Tryz.prog 41 4 = some (4,1,false):=by kernel_rfl
@[simp] theorem tf41_5:tf Tryz.prog 41 5 = some (5,1,false):=by kernel_rfl
@[simp] theorem tf41_6:tf Tryz.prog 41 6 = some (6,1,false):=by kernel_rfl
@[simp] theorem tq41:feq Tryz.prog 41 = some [true,true,true,true,true,true,true]:=by kernel_rfl
@[simp] theorem tb41:bplan Tryz.prog 41 = some ([(0,1),(1,1),(2,1),(3,1),(4,1),(5,1),(6,1)],[.int .i64 0,.int .u32 0,.int .i64 0,.int .u32 0,.int .i64 0,.int .i64 0,.int .i64 0]):=by kernel_rfl
@[simp] theorem tz41:tz Tryz.prog 41 = some [.int .i64 0,.int .u32 0,.int .i64 0,.int .u32 0,.int .i64 0,.int .i64 0,.int .i64 0]:=by kernel_rfl
@[simp] theorem tk42:tk Tryz.prog 42 = some (false,1):=by kernel_rfl
@[simp] theorem to42:tok Tryz.prog 42 = true:=by kernel_rfl
@[simp] theorem te42:te Tryz.prog 42 = some (4,none):=by kernel_rfl
@[simp] theorem ta42:tap Tryz.prog 42 = some (4,24):=by kernel_rfl
@[simp] theorem tcl42:tcl Tryz.prog 42 = some 4:=by kernel_rfl
@[simp] theorem ts42:tze Tryz.prog 42 = some [.int .i64 0,.int .u32 0,.int .u32 0,.int .i64 0]:=by kernel_rfl
@[simp] theorem tz42:tz Tryz.prog 42 = some [.sl 0 [] .full]:=by kernel_rfl
@[simp] theorem tk43:tk Tryz.prog 43 = some (true,15):=by kernel_rfl
@[simp] theorem to43:tok Tryz.prog 43 = true:=by kernel_rfl
@[simp] theorem tf43_0:tf Tryz.prog 43 0 = some (0,7,true):=by kernel_rfl
@[simp] theorem tf43_1:tf Tryz.prog 43 1 = some (7,1,false):=by kernel_rfl
@[simp] theorem tf43_2:tf Tryz.prog 43 2 = some (8,1,false):=by kernel_rfl
@[simp] theorem tf43_3:tf Tryz.prog 43 3 = some (9,1,false):=by kernel_rfl
@[simp] theorem tf43_4:tf Tryz.prog 43 4 = some (10,1,false):=by kernel_rfl
@[simp] theorem tf43_5:tf Tryz.prog 43 5 = some (11,1,false):=by kernel_rfl
@[simp] theorem tf43_6:tf Tryz.prog 43 6 = some (12,1,false):=by kernel_rfl
@[simp] theorem tf43_7:tf Tryz.prog 43 7 = some (13,1,false):=by kernel_rfl
@[simp] theorem tf43_8:tf Tryz.prog 43 8 = some (14,1,false):=by kernel_rfl
@[simp] theorem tb43:bplan Tryz.prog 43 = some ([(0,7),(7,1),(8,1),(9,1),(10,1),(11,1),(12,1),(13,1),(14,1)],[.int .i64 0,.int .u32 0,.int .i64 0,.int .u32 0,.int .i64 0,.int .i64 0,.int .i64 0,.bool false,.bool false,.sl 0 [] .full,.sl 0 [] .full,.int .i64 0,.bool false,.int .u32 0,.int .i64 0]):=by kernel_rfl
@[simp] theorem tz43:tz Tryz.prog 43 = some [.int .i64 0,.int .u32 0,.int .i64 0,.int .u32 0,.int .i64 0,.int .i64 0,.int .i64 0,.bool false,.bool false,.sl 0 [] .full,.sl 0 [] .full,.int .i64 0,.bool false,.int .u32 0,.int .i64 0]:=by kernel_rfl
@[simp] theorem tk44:tk Tryz.prog 44 = some (true,15):=by kernel_rfl
@[simp] theorem to44:tok Tryz.prog 44 = true:=by kernel_rfl
@[simp] theorem tf44_0:tf Tryz.prog 44 0 = some (0,7,true):=by kernel_rfl
@[simp] theorem tf44_1:tf Tryz.prog 44 1 = some (7,1,false):=by kernel_rfl
@[simp] theorem tf44_2:tf Tryz.prog 44 2 = some (8,1,false):=by kernel_rfl
@[simp] theorem tf44_3:tf Tryz.prog 44 3 = some (9,1,false):=by kernel_rfl
@[simp] theorem tf44_4:tf Tryz.prog 44 4 = some (10,1,false):=by kernel_rfl
@[simp] theorem tf44_5:tf Tryz.prog 44 5 = some (11,1,false):=by kernel_rfl
@[simp] theorem tf44_6:tf Tryz.prog 44 6 = some (12,1,false):=by kernel_rfl
@[simp] theorem tf44_7:tf Tryz.prog 44 7 = some (13,1,false):=by kernel_rfl
@[simp] theorem tf44_8:tf Tryz.prog 44 8 = some (14,1,false):=by kernel_rfl
@[simp] theorem tb44:bplan Tryz.prog 44 = some ([(0,7),(7,1),(8,1),(9,1),(10,1),(11,1),(12,1),(13,1),(14,1)],[.int .i64 0,.int .u32 0,.int .i64 0,.int .u32 0,.int .i64 0,.int .i64 0,.int .i64 0,.bool false,.bool false,.sl 0 [] .full,.sl 0 [] .full,.int .i64 0,.bool false,.int .u32 0,.int .i64 0]):=by kernel_rfl
@[simp] theorem tz44:tz Tryz.prog 44 = some [.int .i64 0,.int .u32 0,.int .i64 0,.int .u32 0,.int .i64 0,.int .i64 0,.int .i64 0,.bool false,.bool false,.sl 0 [] .full,.sl 0 [] .full,.int .i64 0,.bool false,.int .u32 0,.int .i64 0]:=by kernel_rfl
@[simp] theorem tk46:tk Tryz.prog 46 = some (false,1):=by kernel_rfl
@[simp] theorem to46:tok Tryz.prog 46 = true:=by kernel_rfl
@[simp] theorem tz46:tz Tryz.prog 46 = some [.nilf]:=by kernel_rfl
@[simp] theorem tk47:tk Tryz.prog 47 = some (false,1):=by kernel_rfl
@[simp] theorem to47:tok Tryz.prog 47 = true:=by kernel_rfl
@[simp] theorem tz47:tz Tryz.prog 47 = some [.nilf]:=by kernel_rfl
@[simp] theorem tk48:tk Tryz.prog 48 = some (false,1):=by kernel_rfl
@[simp] theorem to48:tok Tryz.prog 48 = true:=by kernel_rfl
@[simp] theorem te48:te Tryz.prog 48 = some (2,none):=by kernel_rfl
@[simp] theorem ta48:tap Tryz.prog 48 = some (2,32):=by kernel_rfl
@[simp] theorem tcl48:tcl Tryz.prog 48 = some 2:=by kernel_rfl
@[simp] theorem ts48:tze Tryz.prog 48 = some [.int .i64 0,.sl 0 [] .full]:=by kernel_rfl
@[simp] theorem tz48:tz Tryz.prog 48 = some [.sl 0 [] .full]:=by kernel_rfl
@[simp] theorem tk49:tk Tryz.prog 49 = some (false,1):=by kernel_rfl
@[simp] theorem to49:tok Tryz.prog 49 = true:=by kernel_rfl
@[simp] theorem te49:te Tryz.prog 49 = some (2,none):=by kernel_rfl
@[simp] theorem ta49:tap Tryz.prog 49 = some (2,16):=by kernel_rfl
@[simp] theorem tcl49:tcl Tryz.prog 49 = some 2:=by kernel_rfl
@[simp] theorem ts49:tze Tryz.prog 49 = some [.int .u32 0,.int .i64 0]:=by kernel_rfl
@[simp] theorem tz49:tz Tryz.prog 49 = some [.sl 0 [] .full]:=by kernel_rfl
@[simp] theorem tk50:tk Tryz.prog 50 = some (false,1):=by kernel_rfl
@[simp] theorem to50:tok Tryz.prog 50 = true:=by kernel_rfl
@[simp] theorem te50:te Tryz.prog 50 = some (2,none):=by kernel_rfl
@[simp] theorem ta50:tap Tryz.prog 50 = some (2,32):=by kernel_rfl
@[simp] theorem tcl50:tcl Tryz.prog 50 = some 2:=by kernel_rfl
@[simp] theorem ts50:tze Tryz.prog 50 = some [.int .i64 0,.sl 0 [] .full]:=by kernel_rfl
@[simp] theorem tz50:tz Tryz.prog 50 = some [.sl 0 [] .full]:=by kernel_rfl
@[simp] theorem tk51:tk Tryz.prog 51 = some (false,1):=by kernel_rfl
@[simp] theorem to51:tok Tryz.prog 51 = true:=by kernel_rfl
@[simp] theorem te51:te Tryz.prog 51 = some (2,none):=by kernel_rfl
@[simp] theorem ta51:tap Tryz.prog 51 = some (2,32):=by kernel_rfl
@[simp] theorem tcl51:tcl Tryz.prog 51 = some 2:=by kernel_rfl
@[simp] theorem ts51:tze Tryz.prog 51 = some [.int .i64 0,.sl 0 [] .full]:=by kernel_rfl
@[simp] theorem tz51:tz Tryz.prog 51 = some [.sl 0 [] .full]:=by kernel_rfl
@[simp] theorem tk52:tk Tryz.prog 52 = some (true,16):=by kernel_rfl
@[simp] theorem to52:tok Tryz.prog 52 = true:=by kernel_rfl
@[simp] theorem tf52_0:tf Tryz.prog 52 0 = some (0,1,false):=by kernel_rfl
@[simp] theorem tf52_1:tf Tryz.prog 52 1 = some (1,1,false):=by kernel_rfl
@[simp] theorem tf52_2:tf Tryz.prog 52 2 = some (2,1,false):=by kernel_rfl
@[simp] theorem tf52_3:tf Tryz.prog 52 3 = some (3,1,false):=by kernel_rfl
@[simp] theorem tf52_4:tf Tryz.prog 52 4 = some (4,1,false):=by kernel_rfl
@[simp] theorem tf52_5:tf Tryz.prog 52 5 = some (5,1,false):=by kernel_rfl
@[simp] theorem tf52_6:tf Tryz.prog 52 6 = some (6,1,false):=by kernel_rfl
@[simp] theorem tf52_7:tf Tryz.prog 52 7 = some (7,1,false):=by kernel_rfl
@[simp] theorem tf52_8:tf Tryz.prog 52 8 = some (8,1,false):=by kernel_rfl
@[simp] theorem tf52_9:tf Tryz.prog 52 9 = some (9,1,false):=by kernel_rfl
@[simp] theorem tf52_10:tf Tryz.prog 52 10 = some (10,1,false):=by kernel_rfl
@[simp] theorem tf52_11:tf Tryz.prog 52 11 = some (11,1,false):=by kernel_rfl
@[simp] theorem tf52_12:tf Tryz.prog 52 12 = some (12,1,false):=by kernel_rfl
@[simp] theorem tf52_13:tf Tryz.prog 52 13 = some (13,1,false):=by kernel_rfl
@[simp] theorem tf52_14:tf Tryz.prog 52 14 = some (14,1,false):=by kernel_rfl
@[simp] theorem tf52_15:tf Tryz.prog 52 15 = some (15,1,false):=by kernel_rfl
@[simp] theorem tb52:bplan Tryz.prog 52 = some ([(0,1),(1,1),(2,1),(3,1),(4,1),(5,1),(6,1),(7,1),(8,1),(9,1),(10,1),(11,1),(12,1),(13,1),(14,1),(15,1)],[.int .i64 0,.sl 0 [] .full,.int .u32 0,.bool false,.int .i64 0,.bool false,.int .i64 0,.bool false,.bool false,.int .i64 0,.int .u32 0,.sl 0 [] .full,.bool false,.int .u32 0,.sl 0 [] .full,.sl 0 [] .full]):=by kernel_rfl
@[simp] theorem tz52:tz Tryz.prog 52 = some [.int .i64 0,.sl 0 [] .full,.int .u32 0,.bool false,.int .i64 0,.bool false,.int .i64 0,.bool false,.bool false,.int .i64 0,.int .u32 0,.sl 0 [] .full,.bool false,.int .u32 0,.sl 0 [] .full,.sl 0 [] .full]:=by kernel_rfl
@[simp] theorem tk53:tk Tryz.prog 53 = some (true,16):=by kernel_rfl
@[simp] theorem to53:tok Tryz.prog 53 = true:=by kernel_rfl
@[simp] theorem tf53_0:tf Tryz.prog 53 0 = some (0,1,false):=by kernel_rfl
@[simp] theorem tf53_1:tf Tryz.prog 53 1 = some (1,1,false):=by kernel_rfl
@[simp] theorem tf53_2:tf Tryz.prog 53 2 = some (2,1,false):=by kernel_rfl
@[simp] theorem tf53_3:tf Tryz.prog 53 3 = some (3,1,false):=by kernel_rfl
@[simp] theorem tf53_4:tf Tryz.prog 53 4 = some (4,1,false):=by kernel_rfl
@[simp] theorem tf53_5:tf Tryz.prog 53 5 = some (5,1,false):=by kernel_rfl
@[simp] theorem tf53_6:tf Tryz.prog 53 6 = some (6,1,false):=by kernel_rfl
@[simp] theorem tf53_7:tf Tryz.prog 53 7 = some (7,1,false):=by kernel_rfl
@[simp] theorem tf53_8:tf Tryz.prog 53 8 = some (8,1,false):=by kernel_rfl
@[simp] theorem tf53_9:tf Tryz.prog 53 9 = some (9,1,false):=by kernel_rfl
@[simp] theorem tf53_10:tf Tryz.prog 53 10 = some (10,1,false):=by kernel_rfl
@[simp] theorem tf53_11:tf Tryz.prog 53 11 = some (11,1,false):=by kernel_rfl
@[simp] theorem tf53_12:tf Tryz.prog 53 12 = some (12,1,false):=by kernel_rfl
@[simp] theorem tf53_13:tf Tryz.prog 53 13 = some (13,1,false):=by kernel_rfl
@[simp] theorem tf53_14:tf Tryz.prog 53 14 = some (14,1,false):=by kernel_rfl
@[simp] theorem tf53_15:tf Tryz.prog 53 15 = some (15,1,false):=by kernel_rfl
@[simp] theorem tb53:bplan Tryz.prog 53 = some ([(0,1),(1,1),(2,1),(3,1),(4,1),(5,1),(6,1),(7,1),(8,1),(9,1),(10,1),(11,1),(12,1),(13,1),(14,1),(15,1)],[.int .i64 0,.sl 0 [] .full,.int .u32 0,.bool false,.int .i64 0,.bool false,.int .i64 0,.bool false,.bool false,.int .i64 0,.int .u32 0,.sl 0 [] .full,.bool false,.int .u32 0,.sl 0 [] .full,.sl 0 [] .full]):=by kernel_rfl
@[simp] theorem tz53:tz Tryz.prog 53 = some [.int .i64 0,.sl 0 [] .full,.int .u32 0,.bool false,.int .i64 0,.bool false,.int .i64 0,.bool false,.bool false,.int .i64 0,.int .u32 0,.sl 0 [] .full,.bool false,.int .u32 0,.sl 0 [] .full,.sl 0 [] .full]:=by kernel_rfl
@[simp] theorem tk54:tk Tryz.prog 54 = some (true,27):=by kernel_rfl
@[simp] theorem to54:tok Tryz.prog 54 = true:=by kernel_rfl
@[simp] theorem tf54_0:tf Tryz.prog 54 0 = some (0,1,false):=by kernel_rfl
@[simp] theorem tf54_1:tf Tryz.prog 54 1 = some (1,1,false):=by kernel_rfl
@[simp] theorem tf54_2:tf Tryz.prog 54 2 = some (2,1,false):=by kernel_rfl
@[simp] theorem tf54_3:tf Tryz.prog 54 3 = some (3,1,false):=by kernel_rfl
@[simp] theorem tf54_4:tf Tryz.prog 54 4 = some (4,1,false):=by kernel_rfl
@[simp] theorem tf54_5:tf Tryz.prog 54 5 = some (5,1,false):=by kernel_rfl
@[simp] theorem tf54_6:tf Tryz.prog 54 6 = some (6,1,false):=by kernel_rfl
@[simp] theorem tf54_7:tf Tryz.prog 54 7 = some (7,16,true):=by kernel_rfl
@[simp] theorem tf54_8:tf Tryz.prog 54 8 = some (23,1,false):=by kernel_rfl
@[simp] theorem tf54_9:tf Tryz.prog 54 9 = some (24,1,false):=by kernel_rfl
@[simp] theorem tf54_10:tf Tryz.prog 54 10 = some (25,1,false):=by kernel_rfl
@[simp] theorem tf54_11:tf Tryz.prog 54 11 = some (26,1,false):=by kernel_rfl
@[simp] theorem tb54:bplan Tryz.prog 54 = some ([(0,1),(1,1),(2,1),(3,1),(4,1),(5,1),(6,1),(7,16),(23,1),(24,1),(25,1),(26,1)],[.int .i64 0,.int .i64 0,.int .i64 0,.int .i64 0,.int .u32 0,.sl 0 [] .full,.sl 0 [] .full,.int .i64 0,.sl 0 [] .full,.int .u32 0,.bool false,.int .i64 0,.bool false,.int .i64 0,.bool false,.bool false,.int .i64 0,.int .u32 0,.sl 0 [] .full,.bool false,.int .u32 0,.sl 0 [] .full,.sl 0 [] .full,.sl 0 [] .full,.int .i64 0,.int .i64 0,.sl 0 [] .full]):=by kernel_rfl
@[simp] theorem tz54:tz Tryz.prog 54 = some [.int .i64 0,.int .i64 0,.int .i64 0,.int .i64 0,.int .u32 0,.sl 0 [] .full,.sl 0 [] .full,.int .i64 0,.sl 0 [] .full,.int .u32 0,.bool false,.int .i64 0,.bool false,.int .i64 0,.bool false,.bool false,.int .i64 0,.int .u32 0,.sl 0 [] .full,.bool false,.int .u32 0,.sl 0 [] .full,.sl 0 [] .full,.sl 0 [] .full,.int .i64 0,.int .i64 0,.sl 0 [] .full]:=by kernel_rfl
@[simp] theorem tk55:tk Tryz.prog 55 = some (true,27):=by kernel_rfl
@[simp] theorem to55:tok Tryz.prog 55 = true:=by kernel_rfl
@[simp] theorem tf55_0:tf Tryz.prog 55 0 = some (0,1,false):=by kernel_rfl
@[simp] theorem tf55_1:tf Tryz.prog 55 1 = some (1,1,false):=by kernel_rfl
@[simp] theorem tf55_2:tf Tryz.prog 55 2 = some (2,1,false):=by kernel_rfl
@[simp] theorem tf55_3:tf Tryz.prog 55 3 = some (3,1,false):=by kernel_rfl
@[simp] theorem tf55_4:tf Tryz.prog 55 4 = some (4,1,false):=by kernel_rfl
@[simp] theorem tf55_5:tf Tryz.prog 55 5 = some (5,1,false):=by kernel_rfl
@[simp] theorem tf55_6:tf Tryz.prog 55 6 = some (6,1,false):=by kernel_rfl
@[simp] theorem tf55_7:tf Tryz.prog 55 7 = some (7,16,true):=by kernel_rfl
@[simp] theorem tf55_8:tf Tryz.prog 55 8 = some (23,1,false):=by kernel_rfl
@[simp] theorem tf55_9:tf Tryz.prog 55 9 = some (24,1,false):=by kernel_rfl
@[simp] theorem tf55_10:tf Tryz.prog 55 10 = some (25,1,false):=by kernel_rfl
@[simp] theorem tf55_11:tf Tryz.prog 55 11 = some (26,1,false):=by kernel_rfl
@[simp] theorem tb55:bplan Tryz.prog 55 = some ([(0,1),(1,1),(2,1),(3,1),(4,1),(5,1),(6,1),(7,16),(23,1),(24,1),(25,1),(26,1)],[.int .i64 0,.int .i64 0,.int .i64 0,.int .i64 0,.int .u32 0,.sl 0 [] .full,.sl 0 [] .full,.int .i64 0,.sl 0 [] .full,.int .u32 0,.bool false,.int .i64 0,.bool false,.int .i64 0,.bool false,.bool false,.int .i64 0,.int .u32 0,.sl 0 [] .full,.bool false,.int .u32 0,.sl 0 [] .full,.sl 0 [] .full,.sl 0 [] .full,.int .i64 0,.int .i64 0,.sl 0 [] .full]):=by kernel_rfl
@[simp] theorem tz55:tz Tryz.prog 55 = some [.int .i64 0,.int .i64 0,.int .i64 0,.int .i64 0,.int .u32 0,.sl 0 [] .full,.sl 0 [] .full,.int .i64 0,.sl 0 [] .full,.int .u32 0,.bool false,.int .i64 0,.bool false,.int .i64 0,.bool false,.bool false,.int .i64 0,.int .u32 0,.sl 0 [] .full,.bool false,.int .u32 0,.sl 0 [] .full,.sl 0 [] .full,.sl 0 [] .full,.int .i64 0,.int .i64 0,.sl 0 [] .full]:=by kernel_rfl
@[simp] theorem tk57:tk Tryz.prog 57 = some (false,1):=by kernel_rfl
@[simp] theorem to57:tok Tryz.prog 57 = true:=by kernel_rfl
@[simp] theorem tz57:tz Tryz.prog 57 = some [.nilf]:=by kernel_rfl
@[simp] theorem tk58:tk Tryz.prog 58 = some (false,1):=by kernel_rfl
@[simp] theorem to58:tok Tryz.prog 58 = true:=by kernel_rfl
@[simp] theorem tz58:tz Tryz.prog 58 = some [.nilf]:=by kernel_rfl
@[simp] theorem tk60:tk Tryz.prog 60 = some (false,1):=by kernel_rfl
@[simp] theorem to60:tok Tryz.prog 60 = true:=by kernel_rfl
@[simp] theorem tz60:tz Tryz.prog 60 = some [.nilf]:=by kernel_rfl
@[simp] theorem tk61:tk Tryz.prog 61 = some (false,1):=by kernel_rfl
@[simp] theorem to61:tok Tryz.prog 61 = true:=by kernel_rfl
@[simp] theorem tz61:tz Tryz.prog 61 = some [.nilf]:=by kernel_rfl
@[simp] theorem tk62:tk Tryz.prog 62 = some (true,2):=by kernel_rfl
@[simp] theorem to62:tok Tryz.prog 62 = true:=by kernel_rfl
@[simp] theorem tf62_0:tf Tryz.prog 62 0 = some (0,1,false):=by kernel_rfl
@[simp] theorem tf62_1:tf Tryz.prog 62 1 = some (1,1,false):=by kernel_rfl
@[simp] theorem tq62:feq Tryz.prog 62 = some [true,true]:=by kernel_rfl
@[simp] theorem tb62:bplan Tryz.prog 62 = some ([(0,1),(1,1)],[.int .u32 0,.int .i64 0]):=by kernel_rfl
@[simp] theorem tz62:tz Tryz.prog 62 = some [.int .u32 0,.int .i64 0]:=by kernel_rfl
@[simp] theorem tk63:tk Tryz.prog 63 = some (true,2):=by kernel_rfl
@[simp] theorem to63:tok Tryz.prog 63 = true:=by kernel_rfl
@[simp] theorem tf63_0:tf Tryz.prog 63 0 = some (0,1,false):=by kernel_rfl
@[simp] theorem tf63_1:tf Tryz.prog 63 1 = some (1,1,false):=by kernel_rfl
@[simp] theorem tq63:feq Tryz.prog 63 = some [true,true]:=by kernel_rfl
@[simp] theorem tb63:bplan Tryz.prog 63 = some ([(0,1),(1,1)],[.int .u32 0,.int .i64 0]):=by kernel_rfl
@[simp] theorem tz63:tz Tryz.prog 63 = some [.int .u32 0,.int .i64 0]:=by kernel_rfl
@[simp] theorem tk64:tk Tryz.prog 64 = some (true,4):=by kernel_rfl
@[simp] theorem to64:tok Tryz.prog 64 = true:=by kernel_rfl
@[simp] theorem tf64_0:tf Tryz.prog 64 0 = some (0,1,false):=by kernel_rfl
@[simp] theorem tf64_1:tf Tryz.prog 64 1 = some (1,2,true):=by kernel_rfl
@[simp] theorem tf64_2:tf Tryz.prog 64 2 = some (3,1,false):=by kernel_rfl
@[simp] theorem tq64:feq Tryz.prog 64 = some [true,true,true,true]:=by kernel_rfl
@[simp] theorem tb64:bplan Tryz.prog 64 = some ([(0,1),(1,2),(3,1)],[.int .i64 0,.int .u32 0,.int .i64 0,.int .i64 0]):=by kernel_rfl
@[simp] theorem tz64:tz Tryz.prog 64 = some [.int .i64 0,.int .u32 0,.int .i64 0,.int .i64 0]:=by kernel_rfl
@[simp] theorem tk65:tk Tryz.prog 65 = some (true,4):=by kernel_rfl
@[simp] theorem to65:tok Tryz.prog 65 = true:=by kernel_rfl
@[simp] theorem tf65_0:tf Tryz.prog 65 0 = some (0,1,false):=by kernel_rfl
@[simp] theorem tf65_1:tf Tryz.prog 65 1 = some (1,2,true):=by kernel_rfl
@[simp] theorem tf65_2:tf Tryz.prog 65 2 = some (3,1,false):=by kernel_rfl
@[simp] theorem tq65:feq Tryz.prog 65 = some [true,true,true,true]:=by kernel_rfl
@[simp] theorem tb65:bplan Tryz.prog 65 = some ([(0,1),(1,2),(3,1)],[.int .i64 0,.int .u32 0,.int .i64 0,.int .i64 0]):=by kernel_rfl
@[simp] theorem tz65:tz Tryz.prog 65 = some [.int .i64 0,.int .u32 0,.int .i64 0,.int .i64 0]:=by kernel_rfl
@[simp] theorem tk67:tk Tryz.prog 67 = some (false,1):=by kernel_rfl
@[simp] theorem to67:tok Tryz.prog 67 = true:=by kernel_rfl
@[simp] theorem tz67:tz Tryz.prog 67 = some [.nilf]:=by kernel_rfl
@[simp] theorem tk68:tk Tryz.prog 68 = some (false,1):=by kernel_rfl
@[simp] theorem to68:tok Tryz.prog 68 = true:=by kernel_rfl
@[simp] theorem tz68:tz Tryz.prog 68 = some [.nilf]:=by kernel_rfl
@[simp] theorem tk69:tk Tryz.prog 69 = some (false,1):=by kernel_rfl
@[simp] theorem to69:tok Tryz.prog 69 = true:=by kernel_rfl
@[simp] theorem tz69:tz Tryz.prog 69 = some [.nilf]:=by kernel_rfl
@[simp] theorem tk70:tk Tryz.prog 70 = some (false,1):=by kernel_rfl
@[simp] theorem to70:tok Tryz.prog 70 = true:=by kernel_rfl
@[simp] theorem tz70:tz Tryz.prog 70 = some [.nilf]:=by kernel_rfl
@[simp] theorem tk71:tk Tryz.prog 71 = some (false,1):=by kernel_rfl
@[simp] theorem to71:tok Tryz.prog 71 = true:=by kernel_rfl
@[simp] theorem tz71:tz Tryz.prog 71 = some [.nilp]:=by kernel_rfl
@[simp] theorem tk72:tk Tryz.prog 72 = some (true,2):=by kernel_rfl
@[simp] theorem to72:tok Tryz.prog 72 = true:=by kernel_rfl
@[simp] theorem tf72_0:tf Tryz.prog 72 0 = some (0,1,false):=by kernel_rfl
@[simp] theorem tf72_1:tf Tryz.prog 72 1 = some (1,1,false):=by kernel_rfl
@[simp] theorem tb72:bplan Tryz.prog 72 = some ([(0,1),(1,1)],[.sl 0 [] .full,.int .i64 0]):=by kernel_rfl
@[simp] theorem tz72:tz Tryz.prog 72 = some [.sl 0 [] .full,.int .i64 0]:=by kernel_rfl
@[simp] theorem tk73:tk Tryz.prog 73 = some (true,2):=by kernel_rfl
@[simp] theorem to73:tok Tryz.prog 73 = true:=by kernel_rfl
@[simp] theorem tf73_0:tf Tryz.prog 73 0 = some (0,1,false):=by kernel_rfl
@[simp] theorem tf73_1:tf Tryz.prog 73 1 = some (1,1,false):=by kernel_rfl
@[simp] theorem tb73:bplan Tryz.prog 73 = some ([(0,1),(1,1)],[.sl 0 [] .full,.int .i64 0]):=by kernel_rfl
@[simp] theorem tz73:tz Tryz.prog 73 = some [.sl 0 [] .full,.int .i64 0]:=by kernel_rfl
@[simp] theorem tk74:tk Tryz.prog 74 = some (false,1):=by kernel_rfl
@[simp] theorem ti74:tint Tryz.prog 74 = some .u64:=by kernel_rfl
@[simp] theorem to74:tok Tryz.prog 74 = true:=by kernel_rfl
@[simp] theorem tz74:tz Tryz.prog 74 = some [.int .u64 0]:=by kernel_rfl
@[simp] theorem tk75:tk Tryz.prog 75 = some (false,1):=by kernel_rfl
@[simp] theorem to75:tok Tryz.prog 75 = true:=by kernel_rfl
@[simp] theorem tz75:tz Tryz.prog 75 = some [.nilf]:=by kernel_rfl
@[simp] theorem tk76:tk Tryz.prog 76 = some (false,1):=by kernel_rfl
@[simp] theorem to76:tok Tryz.prog 76 = true:=by kernel_rfl
@[simp] theorem tz76:tz Tryz.prog 76 = some [.nilf]:=by kernel_rfl
@[simp] theorem tk77:tk Tryz.prog 77 = some (false,1):=by kernel_rfl
@[simp] theorem to77:tok Tryz.prog 77 = true:=by kernel_rfl
@[simp] theorem tz77:tz Tryz.prog 77 = some [.nilp]:=by kernel_rfl
@[simp] theorem tk78:tk Tryz.prog 78 = some (false,1):=by kernel_rfl
@[simp] theorem to78:tok Tryz.prog 78 = true:=by kernel_rfl
@[simp] theorem tz78:tz Tryz.prog 78 = some [.nilf]:=by kernel_rfl
@[simp] theorem tk79:tk Tryz.prog 79 = some (false,1):=by kernel_rfl
@[simp] theorem to79:tok Tryz.prog 79 = true:=by kernel_rfl
@[simp] theorem tz79:tz Tryz.prog 79 = some [.nilf]:=by kernel_rfl
@[simp] theorem tk80:tk Tryz.prog 80 = some (false,1):=by kernel_rfl
@[simp] theorem to80:tok Tryz.prog 80 = true:=by kernel_rfl
@[simp] theorem tz80:tz Tryz.prog 80 = some [.nilf]:=by kernel_rfl
@[simp] theorem tk81:tk Tryz.prog 81 = some (false,1):=by kernel_rfl
@[simp] theorem to81:tok Tryz.prog 81 = true:=by kernel_rfl
@[simp] theorem tz81:tz Tryz.prog 81 = some [.nilf]:=by kernel_rfl
@[simp] theorem tk82:tk Tryz.prog 82 = some (false,1):=by kernel_rfl
@[simp] theorem to82:tok Tryz.prog 82 = true:=by kernel_rfl
@[simp] theorem tz82:tz Tryz.prog 82 = some [.nilp]:=by kernel_rfl
@[simp] theorem tk83:tk Tryz.prog 83 = some (true,3):=by kernel_rfl
@[simp] theorem to83:tok Tryz.prog 83 = true:=by kernel_rfl
@[simp] theorem tf83_0:tf Tryz.prog 83 0 = some (0,1,false):=by kernel_rfl
@[simp] theorem tf83_1:tf Tryz.prog 83 1 = some (1,1,false):=by kernel_rfl
@[simp] theorem tf83_2:tf Tryz.prog 83 2 = some (2,1,false):=by kernel_rfl
@[simp] theorem tb83:bplan Tryz.prog 83 = some ([(0,1),(1,1),(2,1)],[.sl 0 [] .full,.int .i64 0,.bool false]):=by kernel_rfl
@[simp] theorem tz83:tz Tryz.prog 83 = some [.sl 0 [] .full,.int .i64 0,.bool false]:=by kernel_rfl
@[simp] theorem tk84:tk Tryz.prog 84 = some (true,3):=by kernel_rfl
@[simp] theorem to84:tok Tryz.prog 84 = true:=by kernel_rfl
@[simp] theorem tf84_0:tf Tryz.prog 84 0 = some (0,1,false):=by kernel_rfl
@[simp] theorem tf84_1:tf Tryz.prog 84 1 = some (1,1,false):=by kernel_rfl
@[simp] theorem tf84_2:tf Tryz.prog 84 2 = some (2,1,false):=by kernel_rfl
@[simp] theorem tb84:bplan Tryz.prog 84 = some ([(0,1),(1,1),(2,1)],[.sl 0 [] .full,.int .i64 0,.bool false]):=by kernel_rfl
@[simp] theorem tz84:tz Tryz.prog 84 = some [.sl 0 [] .full,.int .i64 0,.bool false]:=by kernel_rfl
@[simp] theorem tk85:tk Tryz.prog 85 = some (false,1):=by kernel_rfl
@[simp] theorem to85:tok Tryz.prog 85 = true:=by kernel_rfl
@[simp] theorem tz85:tz Tryz.prog 85 = some [.nilf]:=by kernel_rfl
@[simp] theorem tk86:tk Tryz.prog 86 = some (false,1):=by kernel_rfl
@[simp] theorem to86:tok Tryz.prog 86 = true:=by kernel_rfl
@[simp] theorem tz86:tz Tryz.prog 86 = some [.nilf]:=by kernel_rfl
@[simp] theorem tk87:tk Tryz.prog 87 = some (false,1):=by kernel_rfl
@[simp] theorem to87:tok Tryz.prog 87 = true:=by kernel_rfl
@[simp] theorem tz87:tz Tryz.prog 87 = some [.nilf]:=by kernel_rfl
@[simp] theorem tk88:tk Tryz.prog 88 = some (false,1):=by kernel_rfl
@[simp] theorem to88:tok Tryz.prog 88 = true:=by kernel_rfl
@[simp] theorem tz88:tz Tryz.prog 88 = some [.nilp]:=by kernel_rfl
@[simp] theorem tk89:tk Tryz.prog 89 = some (false,1):=by kernel_rfl
@[simp] theorem to89:tok Tryz.prog 89 = true:=by kernel_rfl
@[simp] theorem tz89:tz Tryz.prog 89 = some [.nilf]:=by kernel_rfl
@[simp] theorem tk90:tk Tryz.prog 90 = some (false,1):=by kernel_rfl
@[simp] theorem to90:tok Tryz.prog 90 = true:=by kernel_rfl
@[simp] theorem tz90:tz Tryz.prog 90 = some [.nilf]:=by kernel_rfl
@[simp] theorem tk91:tk Tryz.prog 91 = some (false,1):=by kernel_rfl
@[simp] theorem to91:tok Tryz.prog 91 = true:=by kernel_rfl
@[simp] theorem tz91:tz Tryz.prog 91 = some [.nilf]:=by kernel_rfl
@[simp] theorem tk92:tk Tryz.prog 92 = some (false,1):=by kernel_rfl
@[simp] theorem to92:tok Tryz.prog 92 = true:=by kernel_rfl
@[simp] theorem tz92:tz Tryz.prog 92 = some [.nilf]:=by kernel_rfl
@[simp] theorem tk94:tk Tryz.prog 94 = some (false,1):=by kernel_rfl
@[simp] theorem to94:tok Tryz.prog 94 = true:=by kernel_rfl
@[simp] theorem tz94:tz Tryz.prog 94 = some [.nilf]:=by kernel_rfl
@[simp] theorem tk95:tk Tryz.prog 95 = some (false,1):=by kernel_rfl
@[simp] theorem to95:tok Tryz.prog 95 = true:=by kernel_rfl
@[simp] theorem tz95:tz Tryz.prog 95 = some [.nilf]:=by kernel_rfl
@[simp] theorem tk97:tk Tryz.prog 97 = some (false,1):=by kernel_rfl
@[simp] theorem to97:tok Tryz.prog 97 = true:=by kernel_rfl
@[simp] theorem tz97:tz Tryz.prog 97 = some [.nilf]:=by kernel_rfl
@[simp] theorem tk98:tk Tryz.prog 98 = some (false,1):=by kernel_rfl
@[simp] theorem to98:tok Tryz.prog 98 = true:=by kernel_rfl
@[simp] theorem tz98:tz Tryz.prog 98 = some [.nilf]:=by kernel_rfl
@[simp] theorem tk99:tk Tryz.prog 99 = some (false,1):=by kernel_rfl
@[simp] theorem to99:tok Tryz.prog 99 = true:=by kernel_rfl
@[simp] theorem tz99:tz Tryz.prog 99 = some [.nilf]:=by kernel_rfl
@[simp] theorem tk100:tk Tryz.prog 100 = some (false,1):=by kernel_rfl
@[simp] theorem to100:tok Tryz.prog 100 = true:=by kernel_rfl
@[simp] theorem tz100:tz Tryz.prog 100 = some [.nilf]:=by kernel_rfl
@[simp] theorem tk101:tk Tryz.prog 101 = some (false,1):=by kernel_rfl
@[simp] theorem to101:tok Tryz.prog 101 = true:=by kernel_rfl
@[simp] theorem tz101:tz Tryz.prog 101 = some [.nilf]:=by kernel_rfl
@[simp] theorem tk102:tk Tryz.prog 102 = some (false,1):=by kernel_rfl
@[simp] theorem to102:tok Tryz.prog 102 = true:=by kernel_rfl
@[simp] theorem tz102:tz Tryz.prog 102 = some [.nilf]:=by kernel_rfl
@[simp] theorem tk103:tk Tryz.prog 103 = some (false,1):=by kernel_rfl
@[simp] theorem to103:tok Tryz.prog 103 = true:=by kernel_rfl
@[simp] theorem tz103:tz Tryz.prog 103 = some [.nilf]:=by kernel_rfl
@[simp] theorem tk104:tk Tryz.prog 104 = some (false,1):=by kernel_rfl
@[simp] theorem to104:tok Tryz.prog 104 = true:=by kernel_rfl
@[simp] theorem tz104:tz Tryz.prog 104 = some [.nilp]:=by kernel_rfl
@[simp] theorem tk105:tk Tryz.prog 105 = some (false,1):=by kernel_rfl
@[simp] theorem to105:tok Tryz.prog 105 = true:=by kernel_rfl
@[simp] theorem tz105:tz Tryz.prog 105 = some [.nilf]:=by kernel_rfl
@[simp] theorem tk106:tk Tryz.prog 106 = some (false,1):=by kernel_rfl
@[simp] theorem to106:tok Tryz.prog 106 = true:=by kernel_rfl
@[simp] theorem tz106:tz Tryz.prog 106 = some [.nilf]:=by kernel_rfl
@[simp] theorem tk107:tk Tryz.prog 107 = some (false,1):=by kernel_rfl
@[simp] theorem to107:tok Tryz.prog 107 = true:=by kernel_rfl
@[simp] theorem tz107:tz Tryz.prog 107 = some [.nilp]:=by kernel_rfl
@[simp] theorem tk108:tk Tryz.prog 108 = some (true,3):=by kernel_rfl
@[simp] theorem to108:tok Tryz.prog 108 = true:=by kernel_rfl
@[simp] theorem tf108_0:tf Tryz.prog 108 0 = some (0,1,false):=by kernel_rfl
@[simp] theorem tf108_1:tf Tryz.prog 108 1 = some (1,1,false):=by kernel_rfl
@[simp] theorem tf108_2:tf Tryz.prog 108 2 = some (2,1,false):=by kernel_rfl
@[simp] theorem tb108:bplan Tryz.prog 108 = some ([(0,1),(1,1),(2,1)],[.sl 0 [] .full,.bool false,.bool false]):=by kernel_rfl
@[simp] theorem tz108:tz Tryz.prog 108 = some [.sl 0 [] .full,.bool false,.bool false]:=by kernel_rfl
@[simp] theorem tk109:tk Tryz.prog 109 = some (true,3):=by kernel_rfl
@[simp] theorem to109:tok Tryz.prog 109 = true:=by kernel_rfl
@[simp] theorem tf109_0:tf Tryz.prog 109 0 = some (0,1,false):=by kernel_rfl
@[simp] theorem tf109_1:tf Tryz.prog 109 1 = some (1,1,false):=by kernel_rfl
@[simp] theorem tf109_2:tf Tryz.prog 109 2 = some (2,1,false):=by kernel_rfl
@[simp] theorem tb109:bplan Tryz.prog 109 = some ([(0,1),(1,1),(2,1)],[.sl 0 [] .full,.bool false,.bool false]):=by kernel_rfl
@[simp] theorem tz109:tz Tryz.prog 109 = some [.sl 0 [] .full,.bool false,.bool false]:=by kernel_rfl
@[simp] theorem tk110:tk Tryz.prog 110 = some (false,1):=by kernel_rfl
@[simp] theorem to110:tok Tryz.prog 110 = true:=by kernel_rfl
@[simp] theorem tz110:tz Tryz.prog 110 = some [.nilf]:=by kernel_rfl
@[simp] theorem tk111:tk Tryz.prog 111 = some (false,1):=by kernel_rfl
@[simp] theorem to111:tok Tryz.prog 111 = true:=by kernel_rfl
@[simp] theorem tz111:tz Tryz.prog 111 = some [.nilf]:=by kernel_rfl
@[simp] theorem tk112:tk Tryz.prog 112 = some (false,1):=by kernel_rfl
@[simp] theorem to112:tok Tryz.prog 112 = true:=by kernel_rfl
@[simp] theorem tz112:tz Tryz.prog 112 = some [.nilf]:=by kernel_rfl
@[simp] theorem tk113:tk Tryz.prog 113 = some (false,1):=by kernel_rfl
@[simp] theorem to113:tok Tryz.prog 113 = true:=by kernel_rfl
@[simp] theorem tz113:tz Tryz.prog 113 = some [.nilf]:=by kernel_rfl
@[simp] theorem tk114:tk Tryz.prog 114 = some (true,2):=by kernel_rfl
@[simp] theorem to114:tok Tryz.prog 114 = true:=by kernel_rfl
@[simp] theorem tf114_0:tf Tryz.prog 114 0 = some (0,1,false):=by kernel_rfl
@[simp] theorem tf114_1:tf Tryz.prog 114 1 = some (1,1,false):=by kernel_rfl
@[simp] theorem tb114:bplan Tryz.prog 114 = some ([(0,1),(1,1)],[.int .i64 0,.sl 0 [] .full]):=by kernel_rfl
@[simp] theorem tz114:tz Tryz.prog 114 = some [.int .i64 0,.sl 0 [] .full]:=by kernel_rfl
@[simp] theorem tk115:tk Tryz.prog 115 = some (true,2):=by kernel_rfl
@[simp] theorem to115:tok Tryz.prog 115 = true:=by kernel_rfl
@[simp] theorem tf115_0:tf Tryz.prog 115 0 = some (0,1,false):=by kernel_rfl
@[simp] theorem tf115_1:tf Tryz.prog 115 1 = some (1,1,false):=by kernel_rfl
@[simp] theorem tb115:bplan Tryz.prog 115 = some ([(0,1),(1,1)],[.int .i64 0,.sl 0 [] .full]):=by kernel_rfl
@[simp] theorem tz115:tz Tryz.prog 115 = some [.int .i64 0,.sl 0 [] .full]:=by kernel_rfl
@[simp] theorem tk116:tk Tryz.prog 116 = some (false,1):=by kernel_rfl
@[simp] theorem to116:tok Tryz.prog 116 = true:=by kernel_rfl
@[simp] theorem tz116:tz Tryz.prog 116 = some [.nilf]:=by kernel_rfl
@[simp] theorem tk117:tk Tryz.prog 117 = some (false,1):=by kernel_rfl
@[simp] theorem to117:tok Tryz.prog 117 = true:=by kernel_rfl
@[simp] theorem tz117:tz Tryz.prog 117 = some [.nilf]:=by kernel_rfl
@[simp] theorem tk118:tk Tryz.prog 118 = some (false,1):=by kernel_rfl
@[simp] theorem to118:tok Tryz.prog 118 = true:=by kernel_rfl
@[simp] theorem tz118:tz Tryz.prog 118 = some [.nilf]:=by kernel_rfl
@[simp] theorem tk119:tk Tryz.prog 119 = some (false,1):=by kernel_rfl
@[simp] theorem to119:tok Tryz.prog 119 = true:=by kernel_rfl
@[simp] theorem tz119:tz Tryz.prog 119 = some [.nilp]:=by kernel_rfl
@[simp] theorem tk120:tk Tryz.prog 120 = some (false,1):=by kernel_rfl
@[simp] theorem to120:tok Tryz.prog 120 = true:=by kernel_rfl
@[simp] theorem tz120:tz Tryz.prog 120 = some [.nilf]:=by kernel_rfl
@[simp] theorem tk121:tk Tryz.prog 121 = some (false,1):=by kernel_rfl
@[simp] theorem to121:tok Tryz.prog 121 = true:=by kernel_rfl
@[simp] theorem tz121:tz Tryz.prog 121 = some [.nilf]:=by kernel_rfl
@[simp] theorem tk122:tk Tryz.prog 122 = some (false,1):=by kernel_rfl
@[simp] theorem to122:tok Tryz.prog 122 = true:=by kernel_rfl
@[simp] theorem tz122:tz Tryz.prog 122 = some [.nilf]:=by kernel_rfl
@[simp] theorem tk123:tk Tryz.prog 123 = some (false,1):=by kernel_rfl
@[simp] theorem to123:tok Tryz.prog 123 = true:=by kernel_rfl
@[simp] theorem tz123:tz Tryz.prog 123 = some [.nilf]:=by kernel_rfl
@[simp] theorem tk124:tk Tryz.prog 124 = some (false,1):=by kernel_rfl
@[simp] theorem to124:tok Tryz.prog 124 = true:=by kernel_rfl
@[simp] theorem tz124:tz Tryz.prog 124 = some [.nilf]:=by kernel_rfl
@[simp] theorem tk125:tk Tryz.prog 125 = some (true,4):=by kernel_rfl
@[simp] theorem to125:tok Tryz.prog 125 = true:=by kernel_rfl
@[simp] theorem tf125_0:tf Tryz.prog 125 0 = some (0,1,false):=by kernel_rfl
@[simp] theorem tf125_1:tf Tryz.prog 125 1 = some (1,1,false):=by kernel_rfl
@[simp] theorem tf125_2:tf Tryz.prog 125 2 = some (2,1,false):=by kernel_rfl
@[simp] theorem tf125_3:tf Tryz.prog 125 3 = some (3,1,false):=by kernel_rfl
@[simp] theorem tq125:feq Tryz.prog 125 = some [true,true,true,true]:=by kernel_rfl
@[simp] theorem tb125:bplan Tryz.prog 125 = some ([(0,1),(1,1),(2,1),(3,1)],[.int .i64 0,.int .u32 0,.int .i64 0,.int .u32 0]):=by kernel_rfl
@[simp] theorem tz125:tz Tryz.prog 125 = some [.int .i64 0,.int .u32 0,.int .i64 0,.int .u32 0]:=by kernel_rfl
@[simp] theorem tk126:tk Tryz.prog 126 = some (true,4):=by kernel_rfl
@[simp] theorem to126:tok Tryz.prog 126 = true:=by kernel_rfl
@[simp] theorem tf126_0:tf Tryz.prog 126 0 = some (0,1,false):=by kernel_rfl
@[simp] theorem tf126_1:tf Tryz.prog 126 1 = some (1,1,false):=by kernel_rfl
@[simp] theorem tf126_2:tf Tryz.prog 126 2 = some (2,1,false):=by kernel_rfl
@[simp] theorem tf126_3:tf Tryz.prog 126 3 = some (3,1,false):=by kernel_rfl
@[simp] theorem tq126:feq Tryz.prog 126 = some [true,true,true,true]:=by kernel_rfl
@[simp] theorem tb126:bplan Tryz.prog 126 = some ([(0,1),(1,1),(2,1),(3,1)],[.int .i64 0,.int .u32 0,.int .i64 0,.int .u32 0]):=by kernel_rfl
@[simp] theorem tz126:tz Tryz.prog 126 = some [.int .i64 0,.int .u32 0,.int .i64 0,.int .u32 0]:=by kernel_rfl
@[simp] theorem tk127:tk Tryz.prog 127 = some (false,1):=by kernel_rfl
@[simp] theorem to127:tok Tryz.prog 127 = true:=by kernel_rfl
@[simp] theorem tz127:tz Tryz.prog 127 = some [.nilf]:=by kernel_rfl
@[simp] theorem tk128:tk Tryz.prog 128 = some (false,1):=by kernel_rfl
@[simp] theorem to128:tok Tryz.prog 128 = true:=by kernel_rfl
@[simp] theorem tz128:tz Tryz.prog 128 = some [.nilf]:=by kernel_rfl
@[simp] theorem tk129:tk Tryz.prog 129 = some (false,1):=by kernel_rfl
@[simp] theorem to129:tok Tryz.prog 129 = true:=by kernel_rfl
@[simp] theorem tz129:tz Tryz.prog 129 = some [.nilf]:=by kernel_rfl
@[simp] theorem tk130:tk Tryz.prog 130 = some (false,1):=by kernel_rfl
@[simp] theorem to130:tok Tryz.prog 130 = true:=by kernel_rfl
@[simp] theorem tz130:tz Tryz.prog 130 = some [.nilf]:=by kernel_rfl
@[simp] theorem tk131:tk Tryz.prog 131 = some (false,1):=by kernel_rfl
@[simp] theorem to131:tok Tryz.prog 131 = true:=by kernel_rfl
@[simp] theorem tz131:tz Tryz.prog 131 = some [.nilf]:=by kernel_rfl
@[simp] theorem tk132:tk Tryz.prog 132 = some (false,1):=by kernel_rfl
@[simp] theorem to132:tok Tryz.prog 132 = true:=by kernel_rfl
@[simp] theorem tz132:tz Tryz.prog 132 = some [.nilf]:=by kernel_rfl
@[simp] theorem tk133:tk Tryz.prog 133 = some (false,1):=by kernel_rfl
@[simp] theorem to133:tok Tryz.prog 133 = true:=by kernel_rfl
@[simp] theorem tz133:tz Tryz.prog 133 = some [.nilf]:=by kernel_rfl
@[simp] theorem tk134:tk Tryz.prog 134 = some (false,1):=by kernel_rfl
@[simp] theorem to134:tok Tryz.prog 134 = true:=by kernel_rfl
@[simp] theorem tz134:tz Tryz.prog 134 = some [.nilf]:=by kernel_rfl
@[simp] theorem tk135:tk Tryz.prog 135 = some (false,1):=by kernel_rfl
@[simp] theorem to135:tok Tryz.prog 135 = true:=by kernel_rfl
@[simp] theorem tz135:tz Tryz.prog 135 = some [.nilf]:=by kernel_rfl
@[simp] theorem tk136:tk Tryz.prog 136 = some (false,1):=by kernel_rfl
@[simp] theorem to136:tok Tryz.prog 136 = true:=by kernel_rfl
@[simp] theorem tz136:tz Tryz.prog 136 = some [.nilf]:=by kernel_rfl
@[simp] theorem tk137:tk Tryz.prog 137 = some (false,1):=by kernel_rfl
@[simp] theorem to137:tok Tryz.prog 137 = true:=by kernel_rfl
@[simp] theorem tz137:tz Tryz.prog 137 = some [.nilf]:=by kernel_rfl
@[simp] theorem tk138:tk Tryz.prog 138 = some (false,1):=by kernel_rfl
@[simp] theorem to138:tok Tryz.prog 138 = true:=by kernel_rfl
@[simp] theorem tz138:tz Tryz.prog 138 = some [.nilf]:=by kernel_rfl
@[simp] theorem tk139:tk Tryz.prog 139 = some (false,1):=by kernel_rfl
@[simp] theorem to139:tok Tryz.prog 139 = true:=by kernel_rfl
@[simp] theorem tz139:tz Tryz.prog 139 = some [.nilf]:=by kernel_rfl
@[simp] theorem tk140:tk Tryz.prog 140 = some (false,1):=by kernel_rfl
@[simp] theorem to140:tok Tryz.prog 140 = true:=by kernel_rfl
@[simp] theorem tz140:tz Tryz.prog 140 = some [.nilf]:=by kernel_rfl
@[simp] theorem tk141:tk Tryz.prog 141 = some (false,1):=by kernel_rfl
@[simp] theorem to141:tok Tryz.prog 141 = true:=by kernel_rfl
@[simp] theorem tz141:tz Tryz.prog 141 = some [.nilf]:=by kernel_rfl
@[simp] theorem tk142:tk Tryz.prog 142 = some (false,1):=by kernel_rfl
@[simp] theorem to142:tok Tryz.prog 142 = true:=by kernel_rfl
@[simp] theorem tz142:tz Tryz.prog 142 = some [.nilf]:=by kernel_rfl
@[simp] theorem tk143:tk Tryz.prog 143 = some (false,1):=by kernel_rfl
@[simp] theorem to143:tok Tryz.prog 143 = true:=by kernel_rfl
@[simp] theorem tz143:tz Tryz.prog 143 = some [.nilf]:=by kernel_rfl
@[simp] theorem tk144:tk Tryz.prog 144 = some (false,1):=by kernel_rfl
@[simp] theorem to144:tok Tryz.prog 144 = true:=by kernel_rfl
@[simp] theorem tz144:tz Tryz.prog 144 = some [.nilf]:=by kernel_rfl
@[simp] theorem tk145:tk Tryz.prog 145 = some (false,1):=by kernel_rfl
@[simp] theorem ti145:tint Tryz.prog 145 = some .u64:=by kernel_rfl
@[simp] theorem to145:tok Tryz.prog 145 = true:=by kernel_rfl
@[simp] theorem tz145:tz Tryz.prog 145 = some [.int .u64 0]:=by kernel_rfl
@[simp] theorem tk146:tk Tryz.prog 146 = some (true,4):=by kernel_rfl
@[simp] theorem to146:tok Tryz.prog 146 = true:=by kernel_rfl
@[simp] theorem tf146_0:tf Tryz.prog 146 0 = some (0,1,false):=by kernel_rfl
@[simp] theorem tf146_1:tf Tryz.prog 146 1 = some (1,1,false):=by kernel_rfl
@[simp] theorem tf146_2:tf Tryz.prog 146 2 = some (2,1,false):=by kernel_rfl
@[simp] theorem tf146_3:tf Tryz.prog 146 3 = some (3,1,false):=by kernel_rfl
@[simp] theorem tq146:feq Tryz.prog 146 = some [true,true,true,true]:=by kernel_rfl
@[simp] theorem tb146:bplan Tryz.prog 146 = some ([(0,1),(1,1),(2,1),(3,1)],[.int .i64 0,.int .u32 0,.int .u32 0,.int .i64 0]):=by kernel_rfl
@[simp] theorem tz146:tz Tryz.prog 146 = some [.int .i64 0,.int .u32 0,.int .u32 0,.int .i64 0]:=by kernel_rfl
@[simp] theorem tk147:tk Tryz.prog 147 = some (true,4):=by kernel_rfl
@[simp] theorem to147:tok Tryz.prog 147 = true:=by kernel_rfl
@[simp] theorem tf147_0:tf Tryz.prog 147 0 = some (0,1,false):=by kernel_rfl
@[simp] theorem tf147_1:tf Tryz.prog 147 1 = some (1,1,false):=by kernel_rfl
@[simp] theorem tf147_2:tf Tryz.prog 147 2 = some (2,1,false):=by kernel_rfl
@[simp] theorem tf147_3:tf Tryz.prog 147 3 = some (3,1,false):=by kernel_rfl
@[simp] theorem tq147:feq Tryz.prog 147 = some [true,true,true,true]:=by kernel_rfl
@[simp] theorem tb147:bplan Tryz.prog 147 = some ([(0,1),(1,1),(2,1),(3,1)],[.int .i64 0,.int .u32 0,.int .u32 0,.int .i64 0]):=by kernel_rfl
@[simp] theorem tz147:tz Tryz.prog 147 = some [.int .i64 0,.int .u32 0,.int .u32 0,.int .i64 0]:=by kernel_rfl
@[simp] theorem tk148:tk Tryz.prog 148 = some (false,1):=by kernel_rfl
@[simp] theorem to148:tok Tryz.prog 148 = true:=by kernel_rfl
@[simp] theorem tz148:tz Tryz.prog 148 = some [.nilf]:=by kernel_rfl
@[simp] theorem tk149:tk Tryz.prog 149 = some (false,1):=by kernel_rfl
@[simp] theorem to149:tok Tryz.prog 149 = true:=by kernel_rfl
@[simp] theorem tz149:tz Tryz.prog 149 = some [.nilf]:=by kernel_rfl
@[simp] theorem tk150:tk Tryz.prog 150 = some (false,1):=by kernel_rfl
@[simp] theorem to150:tok Tryz.prog 150 = true:=by kernel_rfl
@[simp] theorem tz150:tz Tryz.prog 150 = some [.nilf]:=by kernel_rfl
@[simp] theorem tk152:tk Tryz.prog 152 = some (false,1):=by kernel_rfl
@[simp] theorem to152:tok Tryz.prog 152 = true:=by kernel_rfl
@[simp] theorem tz152:tz Tryz.prog 152 = some [.nilf]:=by kernel_rfl
@[simp] theorem tk153:tk Tryz.prog 153 = some (false,1):=by kernel_rfl
@[simp] theorem to153:tok Tryz.prog 153 = true:=by kernel_rfl
@[simp] theorem tz153:tz Tryz.prog 153 = some [.nilf]:=by kernel_rfl
@[simp] theorem tk154:tk Tryz.prog 154 = some (false,1):=by kernel_rfl
@[simp] theorem to154:tok Tryz.prog 154 = true:=by kernel_rfl
@[simp] theorem tz154:tz Tryz.prog 154 = some [.nilp]:=by kernel_rfl
@[simp] theorem tk155:tk Tryz.prog 155 = some (true,1):=by kernel_rfl
@[simp] theorem to155:tok Tryz.prog 155 = true:=by kernel_rfl
@[simp] theorem tf155_0:tf Tryz.prog 155 0 = some (0,1,false):=by kernel_rfl
@[simp] theorem tb155:bplan Tryz.prog 155 = some ([(0,1)],[.sl 0 [] .full]):=by kernel_rfl
@[simp] theorem tz155:tz Tryz.prog 155 = some [.sl 0 [] .full]:=by kernel_rfl
@[simp] theorem tk156:tk Tryz.prog 156 = some (true,1):=by kernel_rfl
@[simp] theorem to156:tok Tryz.prog 156 = true:=by kernel_rfl
@[simp] theorem tf156_0:tf Tryz.prog 156 0 = some (0,1,false):=by kernel_rfl
@[simp] theorem tb156:bplan Tryz.prog 156 = some ([(0,1)],[.sl 0 [] .full]):=by kernel_rfl
@[simp] theorem tz156:tz Tryz.prog 156 = some [.sl 0 [] .full]:=by kernel_rfl
@[simp] theorem tk157:tk Tryz.prog 157 = some (false,1):=by kernel_rfl
@[simp] theorem to157:tok Tryz.prog 157 = true:=by kernel_rfl
@[simp] theorem tz157:tz Tryz.prog 157 = some [.nilp]:=by kernel_rfl
@[simp] theorem tk158:tk Tryz.prog 158 = some (true,2):=by kernel_rfl
@[simp] theorem to158:tok Tryz.prog 158 = true:=by kernel_rfl
@[simp] theorem tf158_0:tf Tryz.prog 158 0 = some (0,1,true):=by kernel_rfl
@[simp] theorem tf158_1:tf Tryz.prog 158 1 = some (1,1,false):=by kernel_rfl
@[simp] theorem tb158:bplan Tryz.prog 158 = some ([(0,1),(1,1)],[.sl 0 [] .full,.sl 0 [] .full]):=by kernel_rfl
@[simp] theorem tz158:tz Tryz.prog 158 = some [.sl 0 [] .full,.sl 0 [] .full]:=by kernel_rfl
@[simp] theorem tk159:tk Tryz.prog 159 = some (true,2):=by kernel_rfl
@[simp] theorem to159:tok Tryz.prog 159 = true:=by kernel_rfl
@[simp] theorem tf159_0:tf Tryz.prog 159 0 = some (0,1,true):=by kernel_rfl
@[simp] theorem tf159_1:tf Tryz.prog 159 1 = some (1,1,false):=by kernel_rfl
@[simp] theorem tb159:bplan Tryz.prog 159 = some ([(0,1),(1,1)],[.sl 0 [] .full,.sl 0 [] .full]):=by kernel_rfl
@[simp] theorem tz159:tz Tryz.prog 159 = some [.sl 0 [] .full,.sl 0 [] .full]:=by kernel_rfl
@[simp] theorem tk160:tk Tryz.prog 160 = some (false,1):=by kernel_rfl
@[simp] theorem to160:tok Tryz.prog 160 = true:=by kernel_rfl
@[simp] theorem tz160:tz Tryz.prog 160 = some [.nilf]:=by kernel_rfl
@[simp] theorem tk161:tk Tryz.prog 161 = some (true,2):=by kernel_rfl
@[simp] theorem to161:tok Tryz.prog 161 = true:=by kernel_rfl
@[simp] theorem tf161_0:tf Tryz.prog 161 0 = some (0,1,false):=by kernel_rfl
@[simp] theorem tf161_1:tf Tryz.prog 161 1 = some (1,1,false):=by kernel_rfl
@[simp] theorem tb161:bplan Tryz.prog 161 = some ([(0,1),(1,1)],[.int .i64 0,.sl 0 [] .full]):=by kernel_rfl
@[simp] theorem tz161:tz Tryz.prog 161 = some [.int .i64 0,.sl 0 [] .full]:=by kernel_rfl
@[simp] theorem tk162:tk Tryz.prog 162 = some (true,2):=by kernel_rfl
@[simp] theorem to162:tok Tryz.prog 162 = true:=by kernel_rfl
@[simp] theorem tf162_0:tf Tryz.prog 162 0 = some (0,1,false):=by kernel_rfl
@[simp] theorem tf162_1:tf Tryz.prog 162 1 = some (1,1,false):=by kernel_rfl
@[simp] theorem tb162:bplan Tryz.prog 162 = some ([(0,1),(1,1)],[.int .i64 0,.sl 0 [] .full]):=by kernel_rfl
@[simp] theorem tz162:tz Tryz.prog 162 = some [.int .i64 0,.sl 0 [] .full]:=by kernel_rfl
@[simp] theorem tk163:tk Tryz.prog 163 = some (false,1):=by kernel_rfl
@[simp] theorem to163:tok Tryz.prog 163 = true:=by kernel_rfl
@[simp] theorem tz163:tz Tryz.prog 163 = some [.nilp]:=by kernel_rfl
@[simp] theorem tk164:tk Tryz.prog 164 = some (true,2):=by kernel_rfl
@[simp] theorem to164:tok Tryz.prog 164 = true:=by kernel_rfl
@[simp] theorem tf164_0:tf Tryz.prog 164 0 = some (0,1,true):=by kernel_rfl
@[simp] theorem tf164_1:tf Tryz.prog 164 1 = some (1,1,false):=by kernel_rfl
@[simp] theorem tb164:bplan Tryz.prog 164 = some ([(0,1),(1,1)],[.sl 0 [] .full,.sl 0 [] .full]):=by kernel_rfl
@[simp] theorem tz164:tz Tryz.prog 164 = some [.sl 0 [] .full,.sl 0 [] .full]:=by kernel_rfl
@[simp] theorem tk165:tk Tryz.prog 165 = some (true,2):=by kernel_rfl
@[simp] theorem to165:tok Tryz.prog 165 = true:=by kernel_rfl
@[simp] theorem tf165_0:tf Tryz.prog 165 0 = some (0,1,true):=by kernel_rfl
@[simp] theorem tf165_1:tf Tryz.prog 165 1 = some (1,1,false):=by kernel_rfl
@[simp] theorem tb165:bplan Tryz.prog 165 = some ([(0,1),(1,1)],[.sl 0 [] .full,.sl 0 [] .full]):=by kernel_rfl
@[simp] theorem tz165:tz Tryz.prog 165 = some [.sl 0 [] .full,.sl 0 [] .full]:=by kernel_rfl
@[simp] theorem tk166:tk Tryz.prog 166 = some (false,1):=by kernel_rfl
@[simp] theorem to166:tok Tryz.prog 166 = true:=by kernel_rfl
@[simp] theorem tz166:tz Tryz.prog 166 = some [.nilf]:=by kernel_rfl
@[simp] theorem tk167:tk Tryz.prog 167 = some (false,1):=by kernel_rfl
@[simp] theorem to167:tok Tryz.prog 167 = true:=by kernel_rfl
@[simp] theorem tz167:tz Tryz.prog 167 = some [.nilf]:=by kernel_rfl
@[simp] theorem tk168:tk Tryz.prog 168 = some (false,1):=by kernel_rfl
@[simp] theorem to168:tok Tryz.prog 168 = true:=by kernel_rfl
@[simp] theorem tz168:tz Tryz.prog 168 = some [.nilf]:=by kernel_rfl
@[simp] theorem tk169:tk Tryz.prog 169 = some (true,11):=by kernel_rfl
@[simp] theorem to169:tok Tryz.prog 169 = true:=by kernel_rfl
@[simp] theorem te169:te Tryz.prog 169 = some (1,some 11):=by kernel_rfl
@[simp] theorem tq169:feq Tryz.prog 169 = some [true,true,true,true,true,true,true,true,true,true,true]:=by kernel_rfl
@[simp] theorem tx169:tx Tryz.prog 169 = some 11:=by kernel_rfl
@[simp] theorem tb169:bplan Tryz.prog 169 = some ([(0,1),(1,1),(2,1),(3,1),(4,1),(5,1),(6,1),(7,1),(8,1),(9,1),(10,1)],[.int .u8 0,.int .u8 0,.int .u8 0,.int .u8 0,.int .u8 0,.int .u8 0,.int .u8 0,.int .u8 0,.int .u8 0,.int .u8 0,.int .u8 0]):=by kernel_rfl
@[simp] theorem tz169:tz Tryz.prog 169 = some [.int .u8 0,.int .u8 0,.int .u8 0,.int .u8 0,.int .u8 0,.int .u8 0,.int .u8 0,.int .u8 0,.int .u8 0,.int .u8 0,.int .u8 0]:=by kernel_rfl
@[simp] theorem tk171:tk Tryz.prog 171 = some (false,1):=by kernel_rfl
@[simp] theorem to171:tok Tryz.prog 171 = true:=by kernel_rfl
@[simp] theorem tz171:tz Tryz.prog 171 = some [.nilf]:=by kernel_rfl
@[simp] theorem tk173:tk Tryz.prog 173 = some (false,1):=by kernel_rfl
@[simp] theorem to173:tok Tryz.prog 173 = true:=by kernel_rfl
@[simp] theorem tz173:tz Tryz.prog 173 = some [.nilf]:=by kernel_rfl
@[simp] theorem tk174:tk Tryz.prog 174 = some (false,1):=by kernel_rfl
@[simp] theorem to174:tok Tryz.prog 174 = true:=by kernel_rfl
@[simp] theorem tz174:tz Tryz.prog 174 = some [.nilf]:=by kernel_rfl
@[simp] theorem tk175:tk Tryz.prog 175 = some (false,1):=by kernel_rfl
@[simp] theorem to175:tok Tryz.prog 175 = true:=by kernel_rfl
@[simp] theorem tz175:tz Tryz.prog 175 = some [.nilf]:=by kernel_rfl
@[simp] theorem tk176:tk Tryz.prog 176 = some (false,1):=by kernel_rfl
@[simp] theorem to176:tok Tryz.prog 176 = true:=by kernel_rfl
@[simp] theorem tz176:tz Tryz.prog 176 = some [.nilf]:=by kernel_rfl
@[simp] theorem tk177:tk Tryz.prog 177 = some (false,1):=by kernel_rfl
@[simp] theorem to177:tok Tryz.prog 177 = true:=by kernel_rfl
@[simp] theorem tz177:tz Tryz.prog 177 = some [.nilf]:=by kernel_rfl
@[simp] theorem tk178:tk Tryz.prog 178 = some (false,1):=by kernel_rfl
@[simp] theorem to178:tok Tryz.prog 178 = true:=by kernel_rfl
@[simp] theorem tz178:tz Tryz.prog 178 = some [.nilf]:=by kernel_rfl
@[simp] theorem tk179:tk Tryz.prog 179 = some (false,1):=by kernel_rfl
@[simp] theorem to179:tok Tryz.prog 179 = true:=by kernel_rfl
@[simp] theorem tz179:tz Tryz.prog 179 = some [.nilf]:=by kernel_rfl
@[simp] theorem tk180:tk Tryz.prog 180 = some (false,1):=by kernel_rfl
@[simp] theorem to180:tok Tryz.prog 180 = true:=by kernel_rfl
@[simp] theorem te180:te Tryz.prog 180 = some (1,none):=by kernel_rfl
@[simp] theorem ta180:tap Tryz.prog 180 = some (1,24):=by kernel_rfl
@[simp] theorem tcl180:tcl Tryz.prog 180 = some 1:=by kernel_rfl
@[simp] theorem ts180:tze Tryz.prog 180 = some [.sl 0 [] .full]:=by kernel_rfl
@[simp] theorem tz180:tz Tryz.prog 180 = some [.sl 0 [] .full]:=by kernel_rfl
@[simp] theorem tk181:tk Tryz.prog 181 = some (false,1):=by kernel_rfl
@[simp] theorem to181:tok Tryz.prog 181 = true:=by kernel_rfl
@[simp] theorem te181:te Tryz.prog 181 = some (1,none):=by kernel_rfl
@[simp] theorem ta181:tap Tryz.prog 181 = some (1,8):=by kernel_rfl
@[simp] theorem tcl181:tcl Tryz.prog 181 = some 1:=by kernel_rfl
@[simp] theorem ts181:tze Tryz.prog 181 = some [.int .i64 0]:=by kernel_rfl
@[simp] theorem tz181:tz Tryz.prog 181 = some [.sl 0 [] .full]:=by kernel_rfl
@[simp] theorem tk182:tk Tryz.prog 182 = some (true,2):=by kernel_rfl
@[simp] theorem to182:tok Tryz.prog 182 = true:=by kernel_rfl
@[simp] theorem tf182_0:tf Tryz.prog 182 0 = some (0,1,false):=by kernel_rfl
@[simp] theorem tf182_1:tf Tryz.prog 182 1 = some (1,1,false):=by kernel_rfl
@[simp] theorem tb182:bplan Tryz.prog 182 = some ([(0,1),(1,1)],[.int .i64 0,.sl 0 [] .full]):=by kernel_rfl
@[simp] theorem tz182:tz Tryz.prog 182 = some [.int .i64 0,.sl 0 [] .full]:=by kernel_rfl
@[simp] theorem tk183:tk Tryz.prog 183 = some (true,2):=by kernel_rfl
@[simp] theorem to183:tok Tryz.prog 183 = true:=by kernel_rfl
@[simp] theorem tf183_0:tf Tryz.prog 183 0 = some (0,1,false):=by kernel_rfl
@[simp] theorem tf183_1:tf Tryz.prog 183 1 = some (1,1,false):=by kernel_rfl
@[simp] theorem tb183:bplan Tryz.prog 183 = some ([(0,1),(1,1)],[.int .i64 0,.sl 0 [] .full]):=by kernel_rfl
@[simp] theorem tz183:tz Tryz.prog 183 = some [.int .i64 0,.sl 0 [] .full]:=by kernel_rfl
@[simp] theorem tk184:tk Tryz.prog 184 = some (false,1):=by kernel_rfl
@[simp] theorem to184:tok Tryz.prog 184 = true:=by kernel_rfl
@[simp] theorem tz184:tz Tryz.prog 184 = some [.nilf]:=by kernel_rfl
@[simp] theorem tk186:tk Tryz.prog 186 = some (false,1):=by kernel_rfl
@[simp] theorem to186:tok Tryz.prog 186 = true:=by kernel_rfl
@[simp] theorem tz186:tz Tryz.prog 186 = some [.nilf]:=by kernel_rfl
@[simp] theorem tk187:tk Tryz.prog 187 = some (false,1):=by kernel_rfl
@[simp] theorem to187:tok Tryz.prog 187 = true:=by kernel_rfl
@[simp] theorem tz187:tz Tryz.prog 187 = some [.nilf]:=by kernel_rfl
@[simp] theorem tk188:tk Tryz.prog 188 = some (false,1):=by kernel_rfl
@[simp] theorem to188:tok Tryz.prog 188 = true:=by kernel_rfl
@[simp] theorem tz188:tz Tryz.prog 188 = some [.nilf]:=by kernel_rfl
@[simp] theorem tk189:tk Tryz.prog 189 = some (false,1):=by kernel_rfl
@[simp] theorem to189:tok Tryz.prog 189 = true:=by kernel_rfl
@[simp] theorem tz189:tz Tryz.prog 189 = some [.nilf]:=by kernel_rfl
@[simp] theorem tk190:tk Tryz.prog 190 = some (false,1):=by kernel_rfl
@[simp] theorem to190:tok Tryz.prog 190 = true:=by kernel_rfl
@[simp] theorem tz190:tz Tryz.prog 190 = some [.nilf]:=by kernel_rfl
@[simp] theorem tk191:tk Tryz.prog 191 = some (false,1):=by kernel_rfl
@[simp] theorem to191:tok Tryz.prog 191 = true:=by kernel_rfl
@[simp] theorem tz191:tz Tryz.prog 191 = some [.nilf]:=by kernel_rfl
@[simp] theorem tk192:tk Tryz.prog 192 = some (false,1):=by kernel_rfl
@[simp] theorem to192:tok Tryz.prog 192 = true:=by kernel_rfl
@[simp] theorem tz192:tz Tryz.prog 192 = some [.nilf]:=by kernel_rfl
@[simp] theorem tk193:tk Tryz.prog 193 = some (true,2):=by kernel_rfl
@[simp] theorem to193:tok Tryz.prog 193 = true:=by kernel_rfl
@[simp] theorem te193:te Tryz.prog 193 = some (1,some 2):=by kernel_rfl
@[simp] theorem tq193:feq Tryz.prog 193 = some [true,true]:=by kernel_rfl
@[simp] theorem tx193:tx Tryz.prog 193 = some 2:=by kernel_rfl
@[simp] theorem tb193:bplan Tryz.prog 193 = some ([(0,1),(1,1)],[.int .i64 0,.int .i64 0]):=by kernel_rfl
@[simp] theorem tz193:tz Tryz.prog 193 = some [.int .i64 0,.int .i64 0]:=by kernel_rfl
@[simp] theorem tk194:tk Tryz.prog 194 = some (false,1):=by kernel_rfl
@[simp] theorem to194:tok Tryz.prog 194 = true:=by kernel_rfl
@[simp] theorem tz194:tz Tryz.prog 194 = some [.nilf]:=by kernel_rfl
@[simp] theorem tk195:tk Tryz.prog 195 = some (false,1):=by kernel_rfl
@[simp] theorem to195:tok Tryz.prog 195 = true:=by kernel_rfl
@[simp] theorem tz195:tz Tryz.prog 195 = some [.nilf]:=by kernel_rfl
@[simp] theorem tk196:tk Tryz.prog 196 = some (false,1):=by kernel_rfl
@[simp] theorem to196:tok Tryz.prog 196 = true:=by kernel_rfl
@[simp] theorem tz196:tz Tryz.prog 196 = some [.nilf]:=by kernel_rfl
@[simp] theorem tk197:tk Tryz.prog 197 = some (false,1):=by kernel_rfl
@[simp] theorem to197:tok Tryz.prog 197 = true:=by kernel_rfl
@[simp] theorem tz197:tz Tryz.prog 197 = some [.nilf]:=by kernel_rfl
@[simp] theorem tk198:tk Tryz.prog 198 = some (false,1):=by kernel_rfl
@[simp] theorem to198:tok Tryz.prog 198 = true:=by kernel_rfl
@[simp] theorem tz198:tz Tryz.prog 198 = some [.nilf]:=by kernel_rfl
@[simp] theorem tk199:tk Tryz.prog 199 = some (false,1):=by kernel_rfl
@[simp] theorem to199:tok Tryz.prog 199 = true:=by kernel_rfl
@[simp] theorem te199:te Tryz.prog 199 = some (1,none):=by kernel_rfl
@[simp] theorem ta199:tap Tryz.prog 199 = some (1,8):=by kernel_rfl
@[simp] theorem tcl199:tcl Tryz.prog 199 = some 1:=by kernel_rfl
@[simp] theorem ts199:tze Tryz.prog 199 = some [.int .i64 0]:=by kernel_rfl
@[simp] theorem tz199:tz Tryz.prog 199 = some [.sl 0 [] .full]:=by kernel_rfl
@[simp] theorem tk200:tk Tryz.prog 200 = some (false,1):=by kernel_rfl
@[simp] theorem to200:tok Tryz.prog 200 = true:=by kernel_rfl
@[simp] theorem tz200:tz Tryz.prog 200 = some [.nilf]:=by kernel_rfl
@[simp] theorem tk201:tk Tryz.prog 201 = some (false,1):=by kernel_rfl
@[simp] theorem to201:tok Tryz.prog 201 = true:=by kernel_rfl
@[simp] theorem tz201:tz Tryz.prog 201 = some [.nilf]:=by kernel_rfl
@[simp] theorem tk202:tk Tryz.prog 202 = some (false,1):=by kernel_rfl
@[simp] theorem to202:tok Tryz.prog 202 = true:=by kernel_rfl
@[simp] theorem tz202:tz Tryz.prog 202 = some [.nilf]:=by kernel_rfl
@[simp] theorem tk203:tk Tryz.prog 203 = some (false,1):=by kernel_rfl
@[simp] theorem to203:tok Tryz.prog 203 = true:=by kernel_rfl
@[simp] theorem tz203:tz Tryz.prog 203 = some [.nilf]:=by kernel_rfl
@[simp] theorem tk204:tk Tryz.prog 204 = some (false,1):=by kernel_rfl
@[simp] theorem to204:tok Tryz.prog 204 = true:=by kernel_rfl
@[simp] theorem tz204:tz Tryz.prog 204 = some [.nilf]:=by kernel_rfl
@[simp] theorem tk205:tk Tryz.prog 205 = some (false,1):=by kernel_rfl
@[simp] theorem to205:tok Tryz.prog 205 = true:=by kernel_rfl
@[simp] theorem tz205:tz Tryz.prog 205 = some [.nilf]:=by kernel_rfl
@[simp] theorem tk206:tk Tryz.prog 206 = some (false,1):=by kernel_rfl
@[simp] theorem to206:tok Tryz.prog 206 = true:=by kernel_rfl
@[simp] theorem tz206:tz Tryz.prog 206 = some [.nilf]:=by kernel_rfl
@[simp] theorem tk207:tk Tryz.prog 207 = some (false,1):=by kernel_rfl
@[simp] theorem to207:tok Tryz.prog 207 = true:=by kernel_rfl
@[simp] theorem tz207:tz Tryz.prog 207 = some [.nilf]:=by kernel_rfl
@[simp] theorem tk208:tk Tryz.prog 208 = some (false,1):=by kernel_rfl
@[simp] theorem to208:tok Tryz.prog 208 = true:=by kernel_rfl
@[simp] theorem tz208:tz Tryz.prog 208 = some [.nilf]:=by kernel_rfl
@[simp] theorem tk209:tk Tryz.prog 209 = some (false,1):=by kernel_rfl
@[simp] theorem to209:tok Tryz.prog 209 = true:=by kernel_rfl
@[simp] theorem tz209:tz Tryz.prog 209 = some [.nilf]:=by kernel_rfl
@[simp] theorem tk210:tk Tryz.prog 210 = some (false,1):=by kernel_rfl
@[simp] theorem to210:tok Tryz.prog 210 = true:=by kernel_rfl
@[simp] theorem tz210:tz Tryz.prog 210 = some [.nilf]:=by kernel_rfl
@[simp] theorem tk211:tk Tryz.prog 211 = some (false,1):=by kernel_rfl
@[simp] theorem to211:tok Tryz.prog 211 = true:=by kernel_rfl
@[simp] theorem tz211:tz Tryz.prog 211 = some [.nilf]:=by kernel_rfl
@[simp] theorem tk212:tk Tryz.prog 212 = some (false,1):=by kernel_rfl
@[simp] theorem to212:tok Tryz.prog 212 = true:=by kernel_rfl
@[simp] theorem tz212:tz Tryz.prog 212 = some [.nilf]:=by kernel_rfl
@[simp] theorem tk218:tk Tryz.prog 218 = some (false,1):=by kernel_rfl
@[simp] theorem to218:tok Tryz.prog 218 = true:=by kernel_rfl
@[simp] theorem tz218:tz Tryz.prog 218 = some [.nilf]:=by kernel_rfl
@[simp] theorem tk221:tk Tryz.prog 221 = some (false,1):=by kernel_rfl
@[simp] theorem to221:tok Tryz.prog 221 = true:=by kernel_rfl
@[simp] theorem tz221:tz Tryz.prog 221 = some [.nilf]:=by kernel_rfl
@[simp] theorem tk222:tk Tryz.prog 222 = some (false,1):=by kernel_rfl
@[simp] theorem to222:tok Tryz.prog 222 = true:=by kernel_rfl
@[simp] theorem tz222:tz Tryz.prog 222 = some [.nilp]:=by kernel_rfl
end Go.Proofs.YtapgoboiljjecaaGreatDoor
