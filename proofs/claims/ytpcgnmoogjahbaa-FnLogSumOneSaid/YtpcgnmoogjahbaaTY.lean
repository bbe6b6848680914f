/- Closed facts on the types of the program: sizes, kinds, zero values, fields; each is computed by the kernel. -/
import Derived.Test.YtpcgnmoogjahbaaProg
import Derived.Test.YtpcgnmoogjahbaaVD
namespace Go.Proofs.Ytpcgnmoogjahbaa
open Go Go.VL

theorem tsz2 : tSz Try.prog 2 = some 1 := by kernel_rfl
theorem tby2 : tBytes Try.prog 2 = some 8 := by kernel_rfl
theorem tag2 : tAgg Try.prog 2 = some false := by kernel_rfl
theorem tze2 : tZero Try.prog 2 = some [.int .i64 0] := by kernel_rfl
theorem tk2 : tK Try.prog 2 = .int .i64 := by kernel_rfl
theorem tsz3 : tSz Try.prog 3 = some 1 := by kernel_rfl
theorem tby3 : tBytes Try.prog 3 = some 8 := by kernel_rfl
theorem tag3 : tAgg Try.prog 3 = some false := by kernel_rfl
theorem tze3 : tZero Try.prog 3 = some [.int .i64 0] := by kernel_rfl
theorem tk3 : tK Try.prog 3 = .int .i64 := by kernel_rfl
theorem tsz4 : tSz Try.prog 4 = some 1 := by kernel_rfl
theorem tby4 : tBytes Try.prog 4 = some 1 := by kernel_rfl
theorem tag4 : tAgg Try.prog 4 = some false := by kernel_rfl
theorem tze4 : tZero Try.prog 4 = some [.bool false] := by kernel_rfl
theorem tk4 : tK Try.prog 4 = .bool := by kernel_rfl
theorem tsz5 : tSz Try.prog 5 = some 1 := by kernel_rfl
theorem tby5 : tBytes Try.prog 5 = some 1 := by kernel_rfl
theorem tag5 : tAgg Try.prog 5 = some false := by kernel_rfl
theorem tze5 : tZero Try.prog 5 = some [.int .u8 0] := by kernel_rfl
theorem tk5 : tK Try.prog 5 = .int .u8 := by kernel_rfl
theorem tsz6 : tSz Try.prog 6 = some 1 := by kernel_rfl
theorem tby6 : tBytes Try.prog 6 = some 1 := by kernel_rfl
theorem tag6 : tAgg Try.prog 6 = some false := by kernel_rfl
theorem tze6 : tZero Try.prog 6 = some [.int .u8 0] := by kernel_rfl
theorem tk6 : tK Try.prog 6 = .int .u8 := by kernel_rfl
theorem tsz7 : tSz Try.prog 7 = some 4 := by kernel_rfl
theorem tby7 : tBytes Try.prog 7 = some 24 := by kernel_rfl
theorem tag7 : tAgg Try.prog 7 = some true := by kernel_rfl
theorem tze7 : tZero Try.prog 7 = some [.int .i64 0, .int .i64 0, .bool false, .int .u8 0] := by kernel_rfl
theorem tk7 : tK Try.prog 7 = .other := by kernel_rfl
theorem tfl7_0 : tFld Try.prog 7 0 = some (0, 2) := by kernel_rfl
theorem tfp7_0 : fldPlace Try.prog 7 0 = some (0, 1) := by kernel_rfl
theorem tfl7_1 : tFld Try.prog 7 1 = some (1, 3) := by kernel_rfl
theorem tfp7_1 : fldPlace Try.prog 7 1 = some (1, 1) := by kernel_rfl
theorem tfl7_2 : tFld Try.prog 7 2 = some (2, 4) := by kernel_rfl
theorem tfp7_2 : fldPlace Try.prog 7 2 = some (2, 1) := by kernel_rfl
theorem tfl7_3 : tFld Try.prog 7 3 = some (3, 6) := by kernel_rfl
theorem tfp7_3 : fldPlace Try.prog 7 3 = some (3, 1) := by kernel_rfl
theorem tbo7 : bldOk Try.prog 7 = true := by kernel_rfl
theorem tsz8 : tSz Try.prog 8 = some 4 := by kernel_rfl
theorem tby8 : tBytes Try.prog 8 = some 24 := by kernel_rfl
theorem tag8 : tAgg Try.prog 8 = some true := by kernel_rfl
theorem tze8 : tZero Try.prog 8 = some [.int .i64 0, .int .i64 0, .bool false, .int .u8 0] := by kernel_rfl
theorem tk8 : tK Try.prog 8 = .other := by kernel_rfl
theorem tfl8_0 : tFld Try.prog 8 0 = some (0, 2) := by kernel_rfl
theorem tfp8_0 : fldPlace Try.prog 8 0 = some (0, 1) := by kernel_rfl
theorem tfl8_1 : tFld Try.prog 8 1 = some (1, 3) := by kernel_rfl
theorem tfp8_1 : fldPlace Try.prog 8 1 = some (1, 1) := by kernel_rfl
theorem tfl8_2 : tFld Try.prog 8 2 = some (2, 4) := by kernel_rfl
theorem tfp8_2 : fldPlace Try.prog 8 2 = some (2, 1) := by kernel_rfl
theorem tfl8_3 : tFld Try.prog 8 3 = some (3, 6) := by kernel_rfl
theorem tfp8_3 : fldPlace Try.prog 8 3 = some (3, 1) := by kernel_rfl
theorem tbo8 : bldOk Try.prog 8 = true := by kernel_rfl
theorem tsz9 : tSz Try.prog 9 = some 1 := by kernel_rfl
theorem tby9 : tBytes Try.prog 9 = some 16 := by kernel_rfl
theorem tag9 : tAgg Try.prog 9 = some false := by kernel_rfl
theorem tze9 : tZero Try.prog 9 = some [.string ⟨#[]⟩] := by kernel_rfl
theorem tk9 : tK Try.prog 9 = .string := by kernel_rfl
theorem tsz10 : tSz Try.prog 10 = some 1 := by kernel_rfl
theorem tby10 : tBytes Try.prog 10 = some 16 := by kernel_rfl
theorem tag10 : tAgg Try.prog 10 = some false := by kernel_rfl
theorem tze10 : tZero Try.prog 10 = some [.string ⟨#[]⟩] := by kernel_rfl
theorem tk10 : tK Try.prog 10 = .string := by kernel_rfl
theorem tsz11 : tSz Try.prog 11 = some 1 := by kernel_rfl
theorem tby11 : tBytes Try.prog 11 = some 16 := by kernel_rfl
theorem tag11 : tAgg Try.prog 11 = some false := by kernel_rfl
theorem tze11 : tZero Try.prog 11 = some [.string ⟨#[]⟩] := by kernel_rfl
theorem tk11 : tK Try.prog 11 = .string := by kernel_rfl
theorem tsz12 : tSz Try.prog 12 = some 1 := by kernel_rfl
theorem tby12 : tBytes Try.prog 12 = some 8 := by kernel_rfl
theorem tag12 : tAgg Try.prog 12 = some false := by kernel_rfl
theorem tze12 : tZero Try.prog 12 = some [.int .u64 0] := by kernel_rfl
theorem tk12 : tK Try.prog 12 = .int .u64 := by kernel_rfl
theorem tsz13 : tSz Try.prog 13 = some 2 := by kernel_rfl
theorem tby13 : tBytes Try.prog 13 = some 24 := by kernel_rfl
theorem tag13 : tAgg Try.prog 13 = some true := by kernel_rfl
theorem tze13 : tZero Try.prog 13 = some [.string ⟨#[]⟩, .int .u64 0] := by kernel_rfl
theorem tk13 : tK Try.prog 13 = .other := by kernel_rfl
theorem tfl13_0 : tFld Try.prog 13 0 = some (0, 9) := by kernel_rfl
theorem tfp13_0 : fldPlace Try.prog 13 0 = some (0, 1) := by kernel_rfl
theorem tfl13_1 : tFld Try.prog 13 1 = some (1, 12) := by kernel_rfl
theorem tfp13_1 : fldPlace Try.prog 13 1 = some (1, 1) := by kernel_rfl
theorem tbo13 : bldOk Try.prog 13 = true := by kernel_rfl
theorem tsz14 : tSz Try.prog 14 = some 2 := by kernel_rfl
theorem tby14 : tBytes Try.prog 14 = some 24 := by kernel_rfl
theorem tag14 : tAgg Try.prog 14 = some true := by kernel_rfl
theorem tze14 : tZero Try.prog 14 = some [.string ⟨#[]⟩, .int .u64 0] := by kernel_rfl
theorem tk14 : tK Try.prog 14 = .other := by kernel_rfl
theorem tfl14_0 : tFld Try.prog 14 0 = some (0, 9) := by kernel_rfl
theorem tfp14_0 : fldPlace Try.prog 14 0 = some (0, 1) := by kernel_rfl
theorem tfl14_1 : tFld Try.prog 14 1 = some (1, 12) := by kernel_rfl
theorem tfp14_1 : fldPlace Try.prog 14 1 = some (1, 1) := by kernel_rfl
theorem tbo14 : bldOk Try.prog 14 = true := by kernel_rfl
theorem tsz15 : tSz Try.prog 15 = some 1 := by kernel_rfl
theorem tby15 : tBytes Try.prog 15 = some 8 := by kernel_rfl
theorem tag15 : tAgg Try.prog 15 = some false := by kernel_rfl
theorem tze15 : tZero Try.prog 15 = some [.pointer none] := by kernel_rfl
theorem tk15 : tK Try.prog 15 = .other := by kernel_rfl
theorem tsz16 : tSz Try.prog 16 = some 1 := by kernel_rfl
theorem tby16 : tBytes Try.prog 16 = some 8 := by kernel_rfl
theorem tag16 : tAgg Try.prog 16 = some false := by kernel_rfl
theorem tze16 : tZero Try.prog 16 = some [.pointer none] := by kernel_rfl
theorem tk16 : tK Try.prog 16 = .other := by kernel_rfl
theorem tsz17 : tSz Try.prog 17 = some 1 := by kernel_rfl
theorem tby17 : tBytes Try.prog 17 = some 8 := by kernel_rfl
theorem tag17 : tAgg Try.prog 17 = some false := by kernel_rfl
theorem tze17 : tZero Try.prog 17 = some [.pointer none] := by kernel_rfl
theorem tk17 : tK Try.prog 17 = .other := by kernel_rfl
theorem tsz18 : tSz Try.prog 18 = some 1 := by kernel_rfl
theorem tby18 : tBytes Try.prog 18 = some 8 := by kernel_rfl
theorem tag18 : tAgg Try.prog 18 = some true := by kernel_rfl
theorem tze18 : tZero Try.prog 18 = some [.pointer none] := by kernel_rfl
theorem tk18 : tK Try.prog 18 = .other := by kernel_rfl
theorem tfl18_0 : tFld Try.prog 18 0 = some (0, 17) := by kernel_rfl
theorem tfp18_0 : fldPlace Try.prog 18 0 = some (0, 1) := by kernel_rfl
theorem tbo18 : bldOk Try.prog 18 = true := by kernel_rfl
theorem tsz19 : tSz Try.prog 19 = some 1 := by kernel_rfl
theorem tby19 : tBytes Try.prog 19 = some 8 := by kernel_rfl
theorem tag19 : tAgg Try.prog 19 = some true := by kernel_rfl
theorem tze19 : tZero Try.prog 19 = some [.pointer none] := by kernel_rfl
theorem tk19 : tK Try.prog 19 = .other := by kernel_rfl
theorem tfl19_0 : tFld Try.prog 19 0 = some (0, 17) := by kernel_rfl
theorem tfp19_0 : fldPlace Try.prog 19 0 = some (0, 1) := by kernel_rfl
theorem tbo19 : bldOk Try.prog 19 = true := by kernel_rfl
theorem tsz21 : tSz Try.prog 21 = some 1 := by kernel_rfl
theorem tby21 : tBytes Try.prog 21 = some 4 := by kernel_rfl
theorem tag21 : tAgg Try.prog 21 = some false := by kernel_rfl
theorem tze21 : tZero Try.prog 21 = some [.int .i32 0] := by kernel_rfl
theorem tk21 : tK Try.prog 21 = .int .i32 := by kernel_rfl
theorem tsz24 : tSz Try.prog 24 = some 1 := by kernel_rfl
theorem tby24 : tBytes Try.prog 24 = some 24 := by kernel_rfl
theorem tag24 : tAgg Try.prog 24 = some false := by kernel_rfl
theorem tze24 : tZero Try.prog 24 = some [.slice none 0 0] := by kernel_rfl
theorem tk24 : tK Try.prog 24 = .slice 5 := by kernel_rfl
theorem tel24 : tElem Try.prog 24 = some 5 := by kernel_rfl
theorem tsz26 : tSz Try.prog 26 = some 1 := by kernel_rfl
theorem tby26 : tBytes Try.prog 26 = some 24 := by kernel_rfl
theorem tag26 : tAgg Try.prog 26 = some false := by kernel_rfl
theorem tze26 : tZero Try.prog 26 = some [.slice none 0 0] := by kernel_rfl
theorem tk26 : tK Try.prog 26 = .slice 91 := by kernel_rfl
theorem tel26 : tElem Try.prog 26 = some 91 := by kernel_rfl
theorem tsz27 : tSz Try.prog 27 = some 1 := by kernel_rfl
theorem tby27 : tBytes Try.prog 27 = some 24 := by kernel_rfl
theorem tag27 : tAgg Try.prog 27 = some false := by kernel_rfl
theorem tze27 : tZero Try.prog 27 = some [.slice none 0 0] := by kernel_rfl
theorem tk27 : tK Try.prog 27 = .slice 9 := by kernel_rfl
theorem tel27 : tElem Try.prog 27 = some 9 := by kernel_rfl
theorem tsz30 : tSz Try.prog 30 = some 5 := by kernel_rfl
theorem tby30 : tBytes Try.prog 30 = some 88 := by kernel_rfl
theorem tag30 : tAgg Try.prog 30 = some true := by kernel_rfl
theorem tze30 : tZero Try.prog 30 = some [.string ⟨#[]⟩, .string ⟨#[]⟩, .slice none 0 0, .string ⟨#[]⟩, .string ⟨#[]⟩] := by kernel_rfl
theorem tk30 : tK Try.prog 30 = .other := by kernel_rfl
theorem tfl30_0 : tFld Try.prog 30 0 = some (0, 9) := by kernel_rfl
theorem tfp30_0 : fldPlace Try.prog 30 0 = some (0, 1) := by kernel_rfl
theorem tfl30_1 : tFld Try.prog 30 1 = some (1, 9) := by kernel_rfl
theorem tfp30_1 : fldPlace Try.prog 30 1 = some (1, 1) := by kernel_rfl
theorem tfl30_2 : tFld Try.prog 30 2 = some (2, 27) := by kernel_rfl
theorem tfp30_2 : fldPlace Try.prog 30 2 = some (2, 1) := by kernel_rfl
theorem tfl30_3 : tFld Try.prog 30 3 = some (3, 9) := by kernel_rfl
theorem tfp30_3 : fldPlace Try.prog 30 3 = some (3, 1) := by kernel_rfl
theorem tfl30_4 : tFld Try.prog 30 4 = some (4, 9) := by kernel_rfl
theorem tfp30_4 : fldPlace Try.prog 30 4 = some (4, 1) := by kernel_rfl
theorem tbo30 : bldOk Try.prog 30 = true := by kernel_rfl
theorem tsz31 : tSz Try.prog 31 = some 5 := by kernel_rfl
theorem tby31 : tBytes Try.prog 31 = some 88 := by kernel_rfl
theorem tag31 : tAgg Try.prog 31 = some true := by kernel_rfl
theorem tze31 : tZero Try.prog 31 = some [.string ⟨#[]⟩, .string ⟨#[]⟩, .slice none 0 0, .string ⟨#[]⟩, .string ⟨#[]⟩] := by kernel_rfl
theorem tk31 : tK Try.prog 31 = .other := by kernel_rfl
theorem tfl31_0 : tFld Try.prog 31 0 = some (0, 9) := by kernel_rfl
theorem tfp31_0 : fldPlace Try.prog 31 0 = some (0, 1) := by kernel_rfl
theorem tfl31_1 : tFld Try.prog 31 1 = some (1, 9) := by kernel_rfl
theorem tfp31_1 : fldPlace Try.prog 31 1 = some (1, 1) := by kernel_rfl
theorem tfl31_2 : tFld Try.prog 31 2 = some (2, 27) := by kernel_rfl
theorem tfp31_2 : fldPlace Try.prog 31 2 = some (2, 1) := by kernel_rfl
theorem tfl31_3 : tFld Try.prog 31 3 = some (3, 9) := by kernel_rfl
theorem tfp31_3 : fldPlace Try.prog 31 3 = some (3, 1) := by kernel_rfl
theorem tfl31_4 : tFld Try.prog 31 4 = some (4, 9) := by kernel_rfl
theorem tfp31_4 : fldPlace Try.prog 31 4 = some (4, 1) := by kernel_rfl
theorem tbo31 : bldOk Try.prog 31 = true := by kernel_rfl
theorem tsz34 : tSz Try.prog 34 = some 1 := by kernel_rfl
theorem tby34 : tBytes Try.prog 34 = some 24 := by kernel_rfl
theorem tag34 : tAgg Try.prog 34 = some false := by kernel_rfl
theorem tze34 : tZero Try.prog 34 = some [.slice none 0 0] := by kernel_rfl
theorem tk34 : tK Try.prog 34 = .slice 31 := by kernel_rfl
theorem tel34 : tElem Try.prog 34 = some 31 := by kernel_rfl
theorem tsz43 : tSz Try.prog 43 = some 1 := by kernel_rfl
theorem tby43 : tBytes Try.prog 43 = some 24 := by kernel_rfl
theorem tag43 : tAgg Try.prog 43 = some false := by kernel_rfl
theorem tze43 : tZero Try.prog 43 = some [.slice none 0 0] := by kernel_rfl
theorem tk43 : tK Try.prog 43 = .slice 126 := by kernel_rfl
theorem tel43 : tElem Try.prog 43 = some 126 := by kernel_rfl
theorem tsz44 : tSz Try.prog 44 = some 1 := by kernel_rfl
theorem tby44 : tBytes Try.prog 44 = some 24 := by kernel_rfl
theorem tag44 : tAgg Try.prog 44 = some false := by kernel_rfl
theorem tze44 : tZero Try.prog 44 = some [.slice none 0 0] := by kernel_rfl
theorem tk44 : tK Try.prog 44 = .slice 86 := by kernel_rfl
theorem tel44 : tElem Try.prog 44 = some 86 := by kernel_rfl
theorem tsz45 : tSz Try.prog 45 = some 3 := by kernel_rfl
theorem tby45 : tBytes Try.prog 45 = some 56 := by kernel_rfl
theorem tag45 : tAgg Try.prog 45 = some true := by kernel_rfl
theorem tze45 : tZero Try.prog 45 = some [.slice none 0 0, .slice none 0 0, .int .i64 0] := by kernel_rfl
theorem tk45 : tK Try.prog 45 = .other := by kernel_rfl
theorem tfl45_0 : tFld Try.prog 45 0 = some (0, 43) := by kernel_rfl
theorem tfp45_0 : fldPlace Try.prog 45 0 = some (0, 1) := by kernel_rfl
theorem tfl45_1 : tFld Try.prog 45 1 = some (1, 44) := by kernel_rfl
theorem tfp45_1 : fldPlace Try.prog 45 1 = some (1, 1) := by kernel_rfl
theorem tfl45_2 : tFld Try.prog 45 2 = some (2, 3) := by kernel_rfl
theorem tfp45_2 : fldPlace Try.prog 45 2 = some (2, 1) := by kernel_rfl
theorem tbo45 : bldOk Try.prog 45 = true := by kernel_rfl
theorem tsz46 : tSz Try.prog 46 = some 3 := by kernel_rfl
theorem tby46 : tBytes Try.prog 46 = some 56 := by kernel_rfl
theorem tag46 : tAgg Try.prog 46 = some true := by kernel_rfl
theorem tze46 : tZero Try.prog 46 = some [.slice none 0 0, .slice none 0 0, .int .i64 0] := by kernel_rfl
theorem tk46 : tK Try.prog 46 = .other := by kernel_rfl
theorem tfl46_0 : tFld Try.prog 46 0 = some (0, 43) := by kernel_rfl
theorem tfp46_0 : fldPlace Try.prog 46 0 = some (0, 1) := by kernel_rfl
theorem tfl46_1 : tFld Try.prog 46 1 = some (1, 44) := by kernel_rfl
theorem tfp46_1 : fldPlace Try.prog 46 1 = some (1, 1) := by kernel_rfl
theorem tfl46_2 : tFld Try.prog 46 2 = some (2, 3) := by kernel_rfl
theorem tfp46_2 : fldPlace Try.prog 46 2 = some (2, 1) := by kernel_rfl
theorem tbo46 : bldOk Try.prog 46 = true := by kernel_rfl
theorem tsz49 : tSz Try.prog 49 = some 1 := by kernel_rfl
theorem tby49 : tBytes Try.prog 49 = some 24 := by kernel_rfl
theorem tag49 : tAgg Try.prog 49 = some false := by kernel_rfl
theorem tze49 : tZero Try.prog 49 = some [.slice none 0 0] := by kernel_rfl
theorem tk49 : tK Try.prog 49 = .slice 81 := by kernel_rfl
theorem tel49 : tElem Try.prog 49 = some 81 := by kernel_rfl
theorem tsz50 : tSz Try.prog 50 = some 1 := by kernel_rfl
theorem tby50 : tBytes Try.prog 50 = some 24 := by kernel_rfl
theorem tag50 : tAgg Try.prog 50 = some false := by kernel_rfl
theorem tze50 : tZero Try.prog 50 = some [.slice none 0 0] := by kernel_rfl
theorem tk50 : tK Try.prog 50 = .slice 57 := by kernel_rfl
theorem tel50 : tElem Try.prog 50 = some 57 := by kernel_rfl
theorem tsz51 : tSz Try.prog 51 = some 3 := by kernel_rfl
theorem tby51 : tBytes Try.prog 51 = some 56 := by kernel_rfl
theorem tag51 : tAgg Try.prog 51 = some true := by kernel_rfl
theorem tze51 : tZero Try.prog 51 = some [.slice none 0 0, .slice none 0 0, .int .i64 0] := by kernel_rfl
theorem tk51 : tK Try.prog 51 = .other := by kernel_rfl
theorem tfl51_0 : tFld Try.prog 51 0 = some (0, 49) := by kernel_rfl
theorem tfp51_0 : fldPlace Try.prog 51 0 = some (0, 1) := by kernel_rfl
theorem tfl51_1 : tFld Try.prog 51 1 = some (1, 50) := by kernel_rfl
theorem tfp51_1 : fldPlace Try.prog 51 1 = some (1, 1) := by kernel_rfl
theorem tfl51_2 : tFld Try.prog 51 2 = some (2, 3) := by kernel_rfl
theorem tfp51_2 : fldPlace Try.prog 51 2 = some (2, 1) := by kernel_rfl
theorem tbo51 : bldOk Try.prog 51 = true := by kernel_rfl
theorem tsz52 : tSz Try.prog 52 = some 3 := by kernel_rfl
theorem tby52 : tBytes Try.prog 52 = some 56 := by kernel_rfl
theorem tag52 : tAgg Try.prog 52 = some true := by kernel_rfl
theorem tze52 : tZero Try.prog 52 = some [.slice none 0 0, .slice none 0 0, .int .i64 0] := by kernel_rfl
theorem tk52 : tK Try.prog 52 = .other := by kernel_rfl
theorem tfl52_0 : tFld Try.prog 52 0 = some (0, 49) := by kernel_rfl
theorem tfp52_0 : fldPlace Try.prog 52 0 = some (0, 1) := by kernel_rfl
theorem tfl52_1 : tFld Try.prog 52 1 = some (1, 50) := by kernel_rfl
theorem tfp52_1 : fldPlace Try.prog 52 1 = some (1, 1) := by kernel_rfl
theorem tfl52_2 : tFld Try.prog 52 2 = some (2, 3) := by kernel_rfl
theorem tfp52_2 : fldPlace Try.prog 52 2 = some (2, 1) := by kernel_rfl
theorem tbo52 : bldOk Try.prog 52 = true := by kernel_rfl
theorem tsz56 : tSz Try.prog 56 = some 3 := by kernel_rfl
theorem tby56 : tBytes Try.prog 56 = some 40 := by kernel_rfl
theorem tag56 : tAgg Try.prog 56 = some true := by kernel_rfl
theorem tze56 : tZero Try.prog 56 = some [.int .i64 0, .string ⟨#[]⟩, .string ⟨#[]⟩] := by kernel_rfl
theorem tk56 : tK Try.prog 56 = .other := by kernel_rfl
theorem tfl56_0 : tFld Try.prog 56 0 = some (0, 3) := by kernel_rfl
theorem tfp56_0 : fldPlace Try.prog 56 0 = some (0, 1) := by kernel_rfl
theorem tfl56_1 : tFld Try.prog 56 1 = some (1, 9) := by kernel_rfl
theorem tfp56_1 : fldPlace Try.prog 56 1 = some (1, 1) := by kernel_rfl
theorem tfl56_2 : tFld Try.prog 56 2 = some (2, 9) := by kernel_rfl
theorem tfp56_2 : fldPlace Try.prog 56 2 = some (2, 1) := by kernel_rfl
theorem tbo56 : bldOk Try.prog 56 = true := by kernel_rfl
theorem tsz57 : tSz Try.prog 57 = some 3 := by kernel_rfl
theorem tby57 : tBytes Try.prog 57 = some 40 := by kernel_rfl
theorem tag57 : tAgg Try.prog 57 = some true := by kernel_rfl
theorem tze57 : tZero Try.prog 57 = some [.int .i64 0, .string ⟨#[]⟩, .string ⟨#[]⟩] := by kernel_rfl
theorem tk57 : tK Try.prog 57 = .other := by kernel_rfl
theorem tfl57_0 : tFld Try.prog 57 0 = some (0, 3) := by kernel_rfl
theorem tfp57_0 : fldPlace Try.prog 57 0 = some (0, 1) := by kernel_rfl
theorem tfl57_1 : tFld Try.prog 57 1 = some (1, 9) := by kernel_rfl
theorem tfp57_1 : fldPlace Try.prog 57 1 = some (1, 1) := by kernel_rfl
theorem tfl57_2 : tFld Try.prog 57 2 = some (2, 9) := by kernel_rfl
theorem tfp57_2 : fldPlace Try.prog 57 2 = some (2, 1) := by kernel_rfl
theorem tbo57 : bldOk Try.prog 57 = true := by kernel_rfl
theorem tsz66 : tSz Try.prog 66 = some 1 := by kernel_rfl
theorem tby66 : tBytes Try.prog 66 = some 24 := by kernel_rfl
theorem tag66 : tAgg Try.prog 66 = some false := by kernel_rfl
theorem tze66 : tZero Try.prog 66 = some [.slice none 0 0] := by kernel_rfl
theorem tk66 : tK Try.prog 66 = .slice 156 := by kernel_rfl
theorem tel66 : tElem Try.prog 66 = some 156 := by kernel_rfl
theorem tsz67 : tSz Try.prog 67 = some 1 := by kernel_rfl
theorem tby67 : tBytes Try.prog 67 = some 24 := by kernel_rfl
theorem tag67 : tAgg Try.prog 67 = some false := by kernel_rfl
theorem tze67 : tZero Try.prog 67 = some [.slice none 0 0] := by kernel_rfl
theorem tk67 : tK Try.prog 67 = .slice 159 := by kernel_rfl
theorem tel67 : tElem Try.prog 67 = some 159 := by kernel_rfl
theorem tsz68 : tSz Try.prog 68 = some 7 := by kernel_rfl
theorem tby68 : tBytes Try.prog 68 = some 136 := by kernel_rfl
theorem tag68 : tAgg Try.prog 68 = some true := by kernel_rfl
theorem tze68 : tZero Try.prog 68 = some [.bool false, .slice none 0 0, .slice none 0 0, .slice none 0 0, .slice none 0 0, .slice none 0 0, .int .i64 0] := by kernel_rfl
theorem tk68 : tK Try.prog 68 = .other := by kernel_rfl
theorem tfl68_0 : tFld Try.prog 68 0 = some (0, 4) := by kernel_rfl
theorem tfp68_0 : fldPlace Try.prog 68 0 = some (0, 1) := by kernel_rfl
theorem tfl68_1 : tFld Try.prog 68 1 = some (1, 66) := by kernel_rfl
theorem tfp68_1 : fldPlace Try.prog 68 1 = some (1, 1) := by kernel_rfl
theorem tfl68_2 : tFld Try.prog 68 2 = some (2, 34) := by kernel_rfl
theorem tfp68_2 : fldPlace Try.prog 68 2 = some (2, 1) := by kernel_rfl
theorem tfl68_3 : tFld Try.prog 68 3 = some (3, 67) := by kernel_rfl
theorem tfp68_3 : fldPlace Try.prog 68 3 = some (3, 1) := by kernel_rfl
theorem tfl68_4 : tFld Try.prog 68 4 = some (4, 27) := by kernel_rfl
theorem tfp68_4 : fldPlace Try.prog 68 4 = some (4, 1) := by kernel_rfl
theorem tfl68_5 : tFld Try.prog 68 5 = some (5, 27) := by kernel_rfl
theorem tfp68_5 : fldPlace Try.prog 68 5 = some (5, 1) := by kernel_rfl
theorem tfl68_6 : tFld Try.prog 68 6 = some (6, 3) := by kernel_rfl
theorem tfp68_6 : fldPlace Try.prog 68 6 = some (6, 1) := by kernel_rfl
theorem tbo68 : bldOk Try.prog 68 = true := by kernel_rfl
theorem tsz69 : tSz Try.prog 69 = some 7 := by kernel_rfl
theorem tby69 : tBytes Try.prog 69 = some 136 := by kernel_rfl
theorem tag69 : tAgg Try.prog 69 = some true := by kernel_rfl
theorem tze69 : tZero Try.prog 69 = some [.bool false, .slice none 0 0, .slice none 0 0, .slice none 0 0, .slice none 0 0, .slice none 0 0, .int .i64 0] := by kernel_rfl
theorem tk69 : tK Try.prog 69 = .other := by kernel_rfl
theorem tfl69_0 : tFld Try.prog 69 0 = some (0, 4) := by kernel_rfl
theorem tfp69_0 : fldPlace Try.prog 69 0 = some (0, 1) := by kernel_rfl
theorem tfl69_1 : tFld Try.prog 69 1 = some (1, 66) := by kernel_rfl
theorem tfp69_1 : fldPlace Try.prog 69 1 = some (1, 1) := by kernel_rfl
theorem tfl69_2 : tFld Try.prog 69 2 = some (2, 34) := by kernel_rfl
theorem tfp69_2 : fldPlace Try.prog 69 2 = some (2, 1) := by kernel_rfl
theorem tfl69_3 : tFld Try.prog 69 3 = some (3, 67) := by kernel_rfl
theorem tfp69_3 : fldPlace Try.prog 69 3 = some (3, 1) := by kernel_rfl
theorem tfl69_4 : tFld Try.prog 69 4 = some (4, 27) := by kernel_rfl
theorem tfp69_4 : fldPlace Try.prog 69 4 = some (4, 1) := by kernel_rfl
theorem tfl69_5 : tFld Try.prog 69 5 = some (5, 27) := by kernel_rfl
theorem tfp69_5 : fldPlace Try.prog 69 5 = some (5, 1) := by kernel_rfl
theorem tfl69_6 : tFld Try.prog 69 6 = some (6, 3) := by kernel_rfl
theorem tfp69_6 : fldPlace Try.prog 69 6 = some (6, 1) := by kernel_rfl
theorem tbo69 : bldOk Try.prog 69 = true := by kernel_rfl
theorem tsz70 : tSz Try.prog 70 = some 5 := by kernel_rfl
theorem tby70 : tBytes Try.prog 70 = some 96 := by kernel_rfl
theorem tag70 : tAgg Try.prog 70 = some true := by kernel_rfl
theorem tze70 : tZero Try.prog 70 = some [.slice none 0 0, .slice none 0 0, .string ⟨#[]⟩, .slice none 0 0, .bool false] := by kernel_rfl
theorem tk70 : tK Try.prog 70 = .other := by kernel_rfl
theorem tfl70_0 : tFld Try.prog 70 0 = some (0, 66) := by kernel_rfl
theorem tfp70_0 : fldPlace Try.prog 70 0 = some (0, 1) := by kernel_rfl
theorem tfl70_1 : tFld Try.prog 70 1 = some (1, 67) := by kernel_rfl
theorem tfp70_1 : fldPlace Try.prog 70 1 = some (1, 1) := by kernel_rfl
theorem tfl70_2 : tFld Try.prog 70 2 = some (2, 9) := by kernel_rfl
theorem tfp70_2 : fldPlace Try.prog 70 2 = some (2, 1) := by kernel_rfl
theorem tfl70_3 : tFld Try.prog 70 3 = some (3, 27) := by kernel_rfl
theorem tfp70_3 : fldPlace Try.prog 70 3 = some (3, 1) := by kernel_rfl
theorem tfl70_4 : tFld Try.prog 70 4 = some (4, 4) := by kernel_rfl
theorem tfp70_4 : fldPlace Try.prog 70 4 = some (4, 1) := by kernel_rfl
theorem tbo70 : bldOk Try.prog 70 = true := by kernel_rfl
theorem tsz71 : tSz Try.prog 71 = some 5 := by kernel_rfl
theorem tby71 : tBytes Try.prog 71 = some 96 := by kernel_rfl
theorem tag71 : tAgg Try.prog 71 = some true := by kernel_rfl
theorem tze71 : tZero Try.prog 71 = some [.slice none 0 0, .slice none 0 0, .string ⟨#[]⟩, .slice none 0 0, .bool false] := by kernel_rfl
theorem tk71 : tK Try.prog 71 = .other := by kernel_rfl
theorem tfl71_0 : tFld Try.prog 71 0 = some (0, 66) := by kernel_rfl
theorem tfp71_0 : fldPlace Try.prog 71 0 = some (0, 1) := by kernel_rfl
theorem tfl71_1 : tFld Try.prog 71 1 = some (1, 67) := by kernel_rfl
theorem tfp71_1 : fldPlace Try.prog 71 1 = some (1, 1) := by kernel_rfl
theorem tfl71_2 : tFld Try.prog 71 2 = some (2, 9) := by kernel_rfl
theorem tfp71_2 : fldPlace Try.prog 71 2 = some (2, 1) := by kernel_rfl
theorem tfl71_3 : tFld Try.prog 71 3 = some (3, 27) := by kernel_rfl
theorem tfp71_3 : fldPlace Try.prog 71 3 = some (3, 1) := by kernel_rfl
theorem tfl71_4 : tFld Try.prog 71 4 = some (4, 4) := by kernel_rfl
theorem tfp71_4 : fldPlace Try.prog 71 4 = some (4, 1) := by kernel_rfl
theorem tbo71 : bldOk Try.prog 71 = true := by kernel_rfl
theorem tsz72 : tSz Try.prog 72 = some 18 := by kernel_rfl
theorem tby72 : tBytes Try.prog 72 = some 328 := by kernel_rfl
theorem tag72 : tAgg Try.prog 72 = some true := by kernel_rfl
theorem tze72 : tZero Try.prog 72 = some [.slice none 0 0, .slice none 0 0, .int .i64 0, .bool false, .slice none 0 0, .bool false, .slice none 0 0, .slice none 0 0, .slice none 0 0, .slice none 0 0, .slice none 0 0, .int .i64 0, .bool false, .slice none 0 0, .slice none 0 0, .string ⟨#[]⟩, .slice none 0 0, .bool false] := by kernel_rfl
theorem tk72 : tK Try.prog 72 = .other := by kernel_rfl
theorem tfl72_0 : tFld Try.prog 72 0 = some (0, 52) := by kernel_rfl
theorem tfp72_0 : fldPlace Try.prog 72 0 = some (0, 3) := by kernel_rfl
theorem tfl72_1 : tFld Try.prog 72 1 = some (3, 4) := by kernel_rfl
theorem tfp72_1 : fldPlace Try.prog 72 1 = some (3, 1) := by kernel_rfl
theorem tfl72_2 : tFld Try.prog 72 2 = some (4, 34) := by kernel_rfl
theorem tfp72_2 : fldPlace Try.prog 72 2 = some (4, 1) := by kernel_rfl
theorem tfl72_3 : tFld Try.prog 72 3 = some (5, 69) := by kernel_rfl
theorem tfp72_3 : fldPlace Try.prog 72 3 = some (5, 7) := by kernel_rfl
theorem tfl72_4 : tFld Try.prog 72 4 = some (12, 4) := by kernel_rfl
theorem tfp72_4 : fldPlace Try.prog 72 4 = some (12, 1) := by kernel_rfl
theorem tfl72_5 : tFld Try.prog 72 5 = some (13, 71) := by kernel_rfl
theorem tfp72_5 : fldPlace Try.prog 72 5 = some (13, 5) := by kernel_rfl
theorem tbo72 : bldOk Try.prog 72 = true := by kernel_rfl
theorem tsz73 : tSz Try.prog 73 = some 18 := by kernel_rfl
theorem tby73 : tBytes Try.prog 73 = some 328 := by kernel_rfl
theorem tag73 : tAgg Try.prog 73 = some true := by kernel_rfl
theorem tze73 : tZero Try.prog 73 = some [.slice none 0 0, .slice none 0 0, .int .i64 0, .bool false, .slice none 0 0, .bool false, .slice none 0 0, .slice none 0 0, .slice none 0 0, .slice none 0 0, .slice none 0 0, .int .i64 0, .bool false, .slice none 0 0, .slice none 0 0, .string ⟨#[]⟩, .slice none 0 0, .bool false] := by kernel_rfl
theorem tk73 : tK Try.prog 73 = .other := by kernel_rfl
theorem tfl73_0 : tFld Try.prog 73 0 = some (0, 52) := by kernel_rfl
theorem tfp73_0 : fldPlace Try.prog 73 0 = some (0, 3) := by kernel_rfl
theorem tfl73_1 : tFld Try.prog 73 1 = some (3, 4) := by kernel_rfl
theorem tfp73_1 : fldPlace Try.prog 73 1 = some (3, 1) := by kernel_rfl
theorem tfl73_2 : tFld Try.prog 73 2 = some (4, 34) := by kernel_rfl
theorem tfp73_2 : fldPlace Try.prog 73 2 = some (4, 1) := by kernel_rfl
theorem tfl73_3 : tFld Try.prog 73 3 = some (5, 69) := by kernel_rfl
theorem tfp73_3 : fldPlace Try.prog 73 3 = some (5, 7) := by kernel_rfl
theorem tfl73_4 : tFld Try.prog 73 4 = some (12, 4) := by kernel_rfl
theorem tfp73_4 : fldPlace Try.prog 73 4 = some (12, 1) := by kernel_rfl
theorem tfl73_5 : tFld Try.prog 73 5 = some (13, 71) := by kernel_rfl
theorem tfp73_5 : fldPlace Try.prog 73 5 = some (13, 5) := by kernel_rfl
theorem tbo73 : bldOk Try.prog 73 = true := by kernel_rfl
theorem tsz80 : tSz Try.prog 80 = some 2 := by kernel_rfl
theorem tby80 : tBytes Try.prog 80 = some 32 := by kernel_rfl
theorem tag80 : tAgg Try.prog 80 = some true := by kernel_rfl
theorem tze80 : tZero Try.prog 80 = some [.string ⟨#[]⟩, .string ⟨#[]⟩] := by kernel_rfl
theorem tk80 : tK Try.prog 80 = .other := by kernel_rfl
theorem tfl80_0 : tFld Try.prog 80 0 = some (0, 9) := by kernel_rfl
theorem tfp80_0 : fldPlace Try.prog 80 0 = some (0, 1) := by kernel_rfl
theorem tfl80_1 : tFld Try.prog 80 1 = some (1, 9) := by kernel_rfl
theorem tfp80_1 : fldPlace Try.prog 80 1 = some (1, 1) := by kernel_rfl
theorem tbo80 : bldOk Try.prog 80 = true := by kernel_rfl
theorem tsz81 : tSz Try.prog 81 = some 2 := by kernel_rfl
theorem tby81 : tBytes Try.prog 81 = some 32 := by kernel_rfl
theorem tag81 : tAgg Try.prog 81 = some true := by kernel_rfl
theorem tze81 : tZero Try.prog 81 = some [.string ⟨#[]⟩, .string ⟨#[]⟩] := by kernel_rfl
theorem tk81 : tK Try.prog 81 = .other := by kernel_rfl
theorem tfl81_0 : tFld Try.prog 81 0 = some (0, 9) := by kernel_rfl
theorem tfp81_0 : fldPlace Try.prog 81 0 = some (0, 1) := by kernel_rfl
theorem tfl81_1 : tFld Try.prog 81 1 = some (1, 9) := by kernel_rfl
theorem tfp81_1 : fldPlace Try.prog 81 1 = some (1, 1) := by kernel_rfl
theorem tbo81 : bldOk Try.prog 81 = true := by kernel_rfl
theorem tsz86 : tSz Try.prog 86 = some 3 := by kernel_rfl
theorem tby86 : tBytes Try.prog 86 = some 40 := by kernel_rfl
theorem tag86 : tAgg Try.prog 86 = some true := by kernel_rfl
theorem tze86 : tZero Try.prog 86 = some [.int .i64 0, .string ⟨#[]⟩, .string ⟨#[]⟩] := by kernel_rfl
theorem tk86 : tK Try.prog 86 = .other := by kernel_rfl
theorem tfl86_0 : tFld Try.prog 86 0 = some (0, 3) := by kernel_rfl
theorem tfp86_0 : fldPlace Try.prog 86 0 = some (0, 1) := by kernel_rfl
theorem tfl86_1 : tFld Try.prog 86 1 = some (1, 9) := by kernel_rfl
theorem tfp86_1 : fldPlace Try.prog 86 1 = some (1, 1) := by kernel_rfl
theorem tfl86_2 : tFld Try.prog 86 2 = some (2, 9) := by kernel_rfl
theorem tfp86_2 : fldPlace Try.prog 86 2 = some (2, 1) := by kernel_rfl
theorem tbo86 : bldOk Try.prog 86 = true := by kernel_rfl
theorem tsz91 : tSz Try.prog 91 = some 5 := by kernel_rfl
theorem tby91 : tBytes Try.prog 91 = some 88 := by kernel_rfl
theorem tag91 : tAgg Try.prog 91 = some true := by kernel_rfl
theorem tze91 : tZero Try.prog 91 = some [.string ⟨#[]⟩, .string ⟨#[]⟩, .slice none 0 0, .string ⟨#[]⟩, .string ⟨#[]⟩] := by kernel_rfl
theorem tk91 : tK Try.prog 91 = .other := by kernel_rfl
theorem tfl91_0 : tFld Try.prog 91 0 = some (0, 9) := by kernel_rfl
theorem tfp91_0 : fldPlace Try.prog 91 0 = some (0, 1) := by kernel_rfl
theorem tfl91_1 : tFld Try.prog 91 1 = some (1, 9) := by kernel_rfl
theorem tfp91_1 : fldPlace Try.prog 91 1 = some (1, 1) := by kernel_rfl
theorem tfl91_2 : tFld Try.prog 91 2 = some (2, 27) := by kernel_rfl
theorem tfp91_2 : fldPlace Try.prog 91 2 = some (2, 1) := by kernel_rfl
theorem tfl91_3 : tFld Try.prog 91 3 = some (3, 9) := by kernel_rfl
theorem tfp91_3 : fldPlace Try.prog 91 3 = some (3, 1) := by kernel_rfl
theorem tfl91_4 : tFld Try.prog 91 4 = some (4, 9) := by kernel_rfl
theorem tfp91_4 : fldPlace Try.prog 91 4 = some (4, 1) := by kernel_rfl
theorem tbo91 : bldOk Try.prog 91 = true := by kernel_rfl
theorem tsz106 : tSz Try.prog 106 = some 1 := by kernel_rfl
theorem tby106 : tBytes Try.prog 106 = some 8 := by kernel_rfl
theorem tag106 : tAgg Try.prog 106 = some false := by kernel_rfl
theorem tze106 : tZero Try.prog 106 = some [.pointer none] := by kernel_rfl
theorem tk106 : tK Try.prog 106 = .other := by kernel_rfl
theorem tsz126 : tSz Try.prog 126 = some 2 := by kernel_rfl
theorem tby126 : tBytes Try.prog 126 = some 32 := by kernel_rfl
theorem tag126 : tAgg Try.prog 126 = some true := by kernel_rfl
theorem tze126 : tZero Try.prog 126 = some [.string ⟨#[]⟩, .string ⟨#[]⟩] := by kernel_rfl
theorem tk126 : tK Try.prog 126 = .other := by kernel_rfl
theorem tfl126_0 : tFld Try.prog 126 0 = some (0, 9) := by kernel_rfl
theorem tfp126_0 : fldPlace Try.prog 126 0 = some (0, 1) := by kernel_rfl
theorem tfl126_1 : tFld Try.prog 126 1 = some (1, 9) := by kernel_rfl
theorem tfp126_1 : fldPlace Try.prog 126 1 = some (1, 1) := by kernel_rfl
theorem tbo126 : bldOk Try.prog 126 = true := by kernel_rfl
theorem tsz134 : tSz Try.prog 134 = some 2 := by kernel_rfl
theorem tby134 : tBytes Try.prog 134 = some 32 := by kernel_rfl
theorem tag134 : tAgg Try.prog 134 = some true := by kernel_rfl
theorem tze134 : tZero Try.prog 134 = some [.slice none 0 0, .int .i64 0] := by kernel_rfl
theorem tk134 : tK Try.prog 134 = .other := by kernel_rfl
theorem tfl134_0 : tFld Try.prog 134 0 = some (0, 24) := by kernel_rfl
theorem tfp134_0 : fldPlace Try.prog 134 0 = some (0, 1) := by kernel_rfl
theorem tfl134_1 : tFld Try.prog 134 1 = some (1, 3) := by kernel_rfl
theorem tfp134_1 : fldPlace Try.prog 134 1 = some (1, 1) := by kernel_rfl
theorem tbo134 : bldOk Try.prog 134 = true := by kernel_rfl
theorem tsz135 : tSz Try.prog 135 = some 2 := by kernel_rfl
theorem tby135 : tBytes Try.prog 135 = some 32 := by kernel_rfl
theorem tag135 : tAgg Try.prog 135 = some true := by kernel_rfl
theorem tze135 : tZero Try.prog 135 = some [.slice none 0 0, .int .i64 0] := by kernel_rfl
theorem tk135 : tK Try.prog 135 = .other := by kernel_rfl
theorem tfl135_0 : tFld Try.prog 135 0 = some (0, 24) := by kernel_rfl
theorem tfp135_0 : fldPlace Try.prog 135 0 = some (0, 1) := by kernel_rfl
theorem tfl135_1 : tFld Try.prog 135 1 = some (1, 3) := by kernel_rfl
theorem tfp135_1 : fldPlace Try.prog 135 1 = some (1, 1) := by kernel_rfl
theorem tbo135 : bldOk Try.prog 135 = true := by kernel_rfl
theorem tsz139 : tSz Try.prog 139 = some 1 := by kernel_rfl
theorem tby139 : tBytes Try.prog 139 = some 24 := by kernel_rfl
theorem tag139 : tAgg Try.prog 139 = some false := by kernel_rfl
theorem tze139 : tZero Try.prog 139 = some [.slice none 0 0] := by kernel_rfl
theorem tk139 : tK Try.prog 139 = .slice 3 := by kernel_rfl
theorem tel139 : tElem Try.prog 139 = some 3 := by kernel_rfl
theorem tsz142 : tSz Try.prog 142 = some 1 := by kernel_rfl
theorem tby142 : tBytes Try.prog 142 = some 8 := by kernel_rfl
theorem tag142 : tAgg Try.prog 142 = some false := by kernel_rfl
theorem tze142 : tZero Try.prog 142 = some [.pointer none] := by kernel_rfl
theorem tk142 : tK Try.prog 142 = .other := by kernel_rfl
theorem tsz155 : tSz Try.prog 155 = some 2 := by kernel_rfl
theorem tby155 : tBytes Try.prog 155 = some 32 := by kernel_rfl
theorem tag155 : tAgg Try.prog 155 = some true := by kernel_rfl
theorem tze155 : tZero Try.prog 155 = some [.string ⟨#[]⟩, .string ⟨#[]⟩] := by kernel_rfl
theorem tk155 : tK Try.prog 155 = .other := by kernel_rfl
theorem tfl155_0 : tFld Try.prog 155 0 = some (0, 9) := by kernel_rfl
theorem tfp155_0 : fldPlace Try.prog 155 0 = some (0, 1) := by kernel_rfl
theorem tfl155_1 : tFld Try.prog 155 1 = some (1, 9) := by kernel_rfl
theorem tfp155_1 : fldPlace Try.prog 155 1 = some (1, 1) := by kernel_rfl
theorem tbo155 : bldOk Try.prog 155 = true := by kernel_rfl
theorem tsz156 : tSz Try.prog 156 = some 2 := by kernel_rfl
theorem tby156 : tBytes Try.prog 156 = some 32 := by kernel_rfl
theorem tag156 : tAgg Try.prog 156 = some true := by kernel_rfl
theorem tze156 : tZero Try.prog 156 = some [.string ⟨#[]⟩, .string ⟨#[]⟩] := by kernel_rfl
theorem tk156 : tK Try.prog 156 = .other := by kernel_rfl
theorem tfl156_0 : tFld Try.prog 156 0 = some (0, 9) := by kernel_rfl
theorem tfp156_0 : fldPlace Try.prog 156 0 = some (0, 1) := by kernel_rfl
theorem tfl156_1 : tFld Try.prog 156 1 = some (1, 9) := by kernel_rfl
theorem tfp156_1 : fldPlace Try.prog 156 1 = some (1, 1) := by kernel_rfl
theorem tbo156 : bldOk Try.prog 156 = true := by kernel_rfl
theorem tsz158 : tSz Try.prog 158 = some 2 := by kernel_rfl
theorem tby158 : tBytes Try.prog 158 = some 24 := by kernel_rfl
theorem tag158 : tAgg Try.prog 158 = some true := by kernel_rfl
theorem tze158 : tZero Try.prog 158 = some [.string ⟨#[]⟩, .int .i64 0] := by kernel_rfl
theorem tk158 : tK Try.prog 158 = .other := by kernel_rfl
theorem tfl158_0 : tFld Try.prog 158 0 = some (0, 9) := by kernel_rfl
theorem tfp158_0 : fldPlace Try.prog 158 0 = some (0, 1) := by kernel_rfl
theorem tfl158_1 : tFld Try.prog 158 1 = some (1, 3) := by kernel_rfl
theorem tfp158_1 : fldPlace Try.prog 158 1 = some (1, 1) := by kernel_rfl
theorem tbo158 : bldOk Try.prog 158 = true := by kernel_rfl
theorem tsz159 : tSz Try.prog 159 = some 2 := by kernel_rfl
theorem tby159 : tBytes Try.prog 159 = some 24 := by kernel_rfl
theorem tag159 : tAgg Try.prog 159 = some true := by kernel_rfl
theorem tze159 : tZero Try.prog 159 = some [.string ⟨#[]⟩, .int .i64 0] := by kernel_rfl
theorem tk159 : tK Try.prog 159 = .other := by kernel_rfl
theorem tfl159_0 : tFld Try.prog 159 0 = some (0, 9) := by kernel_rfl
theorem tfp159_0 : fldPlace Try.prog 159 0 = some (0, 1) := by kernel_rfl
theorem tfl159_1 : tFld Try.prog 159 1 = some (1, 3) := by kernel_rfl
theorem tfp159_1 : fldPlace Try.prog 159 1 = some (1, 1) := by kernel_rfl
theorem tbo159 : bldOk Try.prog 159 = true := by kernel_rfl
theorem tsz160 : tSz Try.prog 160 = some 1 := by kernel_rfl
theorem tby160 : tBytes Try.prog 160 = some 8 := by kernel_rfl
theorem tag160 : tAgg Try.prog 160 = some false := by kernel_rfl
theorem tze160 : tZero Try.prog 160 = some [.int .u64 0] := by kernel_rfl
theorem tk160 : tK Try.prog 160 = .int .u64 := by kernel_rfl
theorem tsz164 : tSz Try.prog 164 = some 4 := by kernel_rfl
theorem tby164 : tBytes Try.prog 164 = some 40 := by kernel_rfl
theorem tag164 : tAgg Try.prog 164 = some true := by kernel_rfl
theorem tze164 : tZero Try.prog 164 = some [.pointer none, .pointer none, .pointer none, .string ⟨#[]⟩] := by kernel_rfl
theorem tk164 : tK Try.prog 164 = .other := by kernel_rfl
theorem tfl164_0 : tFld Try.prog 164 0 = some (0, 17) := by kernel_rfl
theorem tfp164_0 : fldPlace Try.prog 164 0 = some (0, 1) := by kernel_rfl
theorem tfl164_1 : tFld Try.prog 164 1 = some (1, 17) := by kernel_rfl
theorem tfp164_1 : fldPlace Try.prog 164 1 = some (1, 1) := by kernel_rfl
theorem tfl164_2 : tFld Try.prog 164 2 = some (2, 17) := by kernel_rfl
theorem tfp164_2 : fldPlace Try.prog 164 2 = some (2, 1) := by kernel_rfl
theorem tfl164_3 : tFld Try.prog 164 3 = some (3, 9) := by kernel_rfl
theorem tfp164_3 : fldPlace Try.prog 164 3 = some (3, 1) := by kernel_rfl
theorem tbo164 : bldOk Try.prog 164 = true := by kernel_rfl
theorem tsz165 : tSz Try.prog 165 = some 4 := by kernel_rfl
theorem tby165 : tBytes Try.prog 165 = some 40 := by kernel_rfl
theorem tag165 : tAgg Try.prog 165 = some true := by kernel_rfl
theorem tze165 : tZero Try.prog 165 = some [.pointer none, .pointer none, .pointer none, .string ⟨#[]⟩] := by kernel_rfl
theorem tk165 : tK Try.prog 165 = .other := by kernel_rfl
theorem tfl165_0 : tFld Try.prog 165 0 = some (0, 17) := by kernel_rfl
theorem tfp165_0 : fldPlace Try.prog 165 0 = some (0, 1) := by kernel_rfl
theorem tfl165_1 : tFld Try.prog 165 1 = some (1, 17) := by kernel_rfl
theorem tfp165_1 : fldPlace Try.prog 165 1 = some (1, 1) := by kernel_rfl
theorem tfl165_2 : tFld Try.prog 165 2 = some (2, 17) := by kernel_rfl
theorem tfp165_2 : fldPlace Try.prog 165 2 = some (2, 1) := by kernel_rfl
theorem tfl165_3 : tFld Try.prog 165 3 = some (3, 9) := by kernel_rfl
theorem tfp165_3 : fldPlace Try.prog 165 3 = some (3, 1) := by kernel_rfl
theorem tbo165 : bldOk Try.prog 165 = true := by kernel_rfl
theorem tsz166 : tSz Try.prog 166 = some 0 := by kernel_rfl
theorem tby166 : tBytes Try.prog 166 = some 0 := by kernel_rfl
theorem tag166 : tAgg Try.prog 166 = some true := by kernel_rfl
theorem tze166 : tZero Try.prog 166 = some [] := by kernel_rfl
theorem tk166 : tK Try.prog 166 = .other := by kernel_rfl
theorem tsz167 : tSz Try.prog 167 = some 0 := by kernel_rfl
theorem tby167 : tBytes Try.prog 167 = some 0 := by kernel_rfl
theorem tag167 : tAgg Try.prog 167 = some true := by kernel_rfl
theorem tze167 : tZero Try.prog 167 = some [] := by kernel_rfl
theorem tk167 : tK Try.prog 167 = .other := by kernel_rfl
theorem tfl167_0 : tFld Try.prog 167 0 = some (0, 166) := by kernel_rfl
theorem tfp167_0 : fldPlace Try.prog 167 0 = some (0, 0) := by kernel_rfl
theorem tbo167 : bldOk Try.prog 167 = true := by kernel_rfl
theorem tsz168 : tSz Try.prog 168 = some 0 := by kernel_rfl
theorem tby168 : tBytes Try.prog 168 = some 0 := by kernel_rfl
theorem tag168 : tAgg Try.prog 168 = some true := by kernel_rfl
theorem tze168 : tZero Try.prog 168 = some [] := by kernel_rfl
theorem tk168 : tK Try.prog 168 = .other := by kernel_rfl
theorem tfl168_0 : tFld Try.prog 168 0 = some (0, 166) := by kernel_rfl
theorem tfp168_0 : fldPlace Try.prog 168 0 = some (0, 0) := by kernel_rfl
theorem tbo168 : bldOk Try.prog 168 = true := by kernel_rfl
theorem tsz170 : tSz Try.prog 170 = some 1 := by kernel_rfl
theorem tby170 : tBytes Try.prog 170 = some 4 := by kernel_rfl
theorem tag170 : tAgg Try.prog 170 = some false := by kernel_rfl
theorem tze170 : tZero Try.prog 170 = some [.int .u32 0] := by kernel_rfl
theorem tk170 : tK Try.prog 170 = .int .u32 := by kernel_rfl
theorem tsz171 : tSz Try.prog 171 = some 1 := by kernel_rfl
theorem tby171 : tBytes Try.prog 171 = some 1 := by kernel_rfl
theorem tag171 : tAgg Try.prog 171 = some false := by kernel_rfl
theorem tze171 : tZero Try.prog 171 = some [.int .u8 0] := by kernel_rfl
theorem tk171 : tK Try.prog 171 = .int .u8 := by kernel_rfl
theorem tsz172 : tSz Try.prog 172 = some 1 := by kernel_rfl
theorem tby172 : tBytes Try.prog 172 = some 1 := by kernel_rfl
theorem tag172 : tAgg Try.prog 172 = some false := by kernel_rfl
theorem tze172 : tZero Try.prog 172 = some [.int .u8 0] := by kernel_rfl
theorem tk172 : tK Try.prog 172 = .int .u8 := by kernel_rfl
theorem tsz174 : tSz Try.prog 174 = some 1 := by kernel_rfl
theorem tby174 : tBytes Try.prog 174 = some 8 := by kernel_rfl
theorem tag174 : tAgg Try.prog 174 = some false := by kernel_rfl
theorem tze174 : tZero Try.prog 174 = some [.pointer none] := by kernel_rfl
theorem tk174 : tK Try.prog 174 = .other := by kernel_rfl
theorem tsz175 : tSz Try.prog 175 = some 1 := by kernel_rfl
theorem tby175 : tBytes Try.prog 175 = some 4 := by kernel_rfl
theorem tag175 : tAgg Try.prog 175 = some false := by kernel_rfl
theorem tze175 : tZero Try.prog 175 = some [.int .i32 0] := by kernel_rfl
theorem tk175 : tK Try.prog 175 = .int .i32 := by kernel_rfl
theorem tsz176 : tSz Try.prog 176 = some 1 := by kernel_rfl
theorem tby176 : tBytes Try.prog 176 = some 4 := by kernel_rfl
theorem tag176 : tAgg Try.prog 176 = some false := by kernel_rfl
theorem tze176 : tZero Try.prog 176 = some [.int .i32 0] := by kernel_rfl
theorem tk176 : tK Try.prog 176 = .int .i32 := by kernel_rfl
theorem tsz177 : tSz Try.prog 177 = some 11 := by kernel_rfl
theorem tby177 : tBytes Try.prog 177 = some 48 := by kernel_rfl
theorem tag177 : tAgg Try.prog 177 = some true := by kernel_rfl
theorem tze177 : tZero Try.prog 177 = some [.int .u64 0, .int .u64 0, .int .u32 0, .int .u8 0, .int .u8 0, .int .u8 0, .int .u8 0, .nilFunc, .pointer none, .int .i32 0, .int .i32 0] := by kernel_rfl
theorem tk177 : tK Try.prog 177 = .other := by kernel_rfl
theorem tfl177_0 : tFld Try.prog 177 0 = some (0, 12) := by kernel_rfl
theorem tfp177_0 : fldPlace Try.prog 177 0 = some (0, 1) := by kernel_rfl
theorem tfl177_1 : tFld Try.prog 177 1 = some (1, 12) := by kernel_rfl
theorem tfp177_1 : fldPlace Try.prog 177 1 = some (1, 1) := by kernel_rfl
theorem tfl177_2 : tFld Try.prog 177 2 = some (2, 170) := by kernel_rfl
theorem tfp177_2 : fldPlace Try.prog 177 2 = some (2, 1) := by kernel_rfl
theorem tfl177_3 : tFld Try.prog 177 3 = some (3, 171) := by kernel_rfl
theorem tfp177_3 : fldPlace Try.prog 177 3 = some (3, 1) := by kernel_rfl
theorem tfl177_4 : tFld Try.prog 177 4 = some (4, 5) := by kernel_rfl
theorem tfp177_4 : fldPlace Try.prog 177 4 = some (4, 1) := by kernel_rfl
theorem tfl177_5 : tFld Try.prog 177 5 = some (5, 5) := by kernel_rfl
theorem tfp177_5 : fldPlace Try.prog 177 5 = some (5, 1) := by kernel_rfl
theorem tfl177_6 : tFld Try.prog 177 6 = some (6, 172) := by kernel_rfl
theorem tfp177_6 : fldPlace Try.prog 177 6 = some (6, 1) := by kernel_rfl
theorem tfl177_7 : tFld Try.prog 177 7 = some (7, 173) := by kernel_rfl
theorem tfp177_7 : fldPlace Try.prog 177 7 = some (7, 1) := by kernel_rfl
theorem tfl177_8 : tFld Try.prog 177 8 = some (8, 174) := by kernel_rfl
theorem tfp177_8 : fldPlace Try.prog 177 8 = some (8, 1) := by kernel_rfl
theorem tfl177_9 : tFld Try.prog 177 9 = some (9, 175) := by kernel_rfl
theorem tfp177_9 : fldPlace Try.prog 177 9 = some (9, 1) := by kernel_rfl
theorem tfl177_10 : tFld Try.prog 177 10 = some (10, 176) := by kernel_rfl
theorem tfp177_10 : fldPlace Try.prog 177 10 = some (10, 1) := by kernel_rfl
theorem tbo177 : bldOk Try.prog 177 = true := by kernel_rfl
theorem tsz178 : tSz Try.prog 178 = some 11 := by kernel_rfl
theorem tby178 : tBytes Try.prog 178 = some 48 := by kernel_rfl
theorem tag178 : tAgg Try.prog 178 = some true := by kernel_rfl
theorem tze178 : tZero Try.prog 178 = some [.int .u64 0, .int .u64 0, .int .u32 0, .int .u8 0, .int .u8 0, .int .u8 0, .int .u8 0, .nilFunc, .pointer none, .int .i32 0, .int .i32 0] := by kernel_rfl
theorem tk178 : tK Try.prog 178 = .other := by kernel_rfl
theorem tfl178_0 : tFld Try.prog 178 0 = some (0, 12) := by kernel_rfl
theorem tfp178_0 : fldPlace Try.prog 178 0 = some (0, 1) := by kernel_rfl
theorem tfl178_1 : tFld Try.prog 178 1 = some (1, 12) := by kernel_rfl
theorem tfp178_1 : fldPlace Try.prog 178 1 = some (1, 1) := by kernel_rfl
theorem tfl178_2 : tFld Try.prog 178 2 = some (2, 170) := by kernel_rfl
theorem tfp178_2 : fldPlace Try.prog 178 2 = some (2, 1) := by kernel_rfl
theorem tfl178_3 : tFld Try.prog 178 3 = some (3, 171) := by kernel_rfl
theorem tfp178_3 : fldPlace Try.prog 178 3 = some (3, 1) := by kernel_rfl
theorem tfl178_4 : tFld Try.prog 178 4 = some (4, 5) := by kernel_rfl
theorem tfp178_4 : fldPlace Try.prog 178 4 = some (4, 1) := by kernel_rfl
theorem tfl178_5 : tFld Try.prog 178 5 = some (5, 5) := by kernel_rfl
theorem tfp178_5 : fldPlace Try.prog 178 5 = some (5, 1) := by kernel_rfl
theorem tfl178_6 : tFld Try.prog 178 6 = some (6, 172) := by kernel_rfl
theorem tfp178_6 : fldPlace Try.prog 178 6 = some (6, 1) := by kernel_rfl
theorem tfl178_7 : tFld Try.prog 178 7 = some (7, 173) := by kernel_rfl
theorem tfp178_7 : fldPlace Try.prog 178 7 = some (7, 1) := by kernel_rfl
theorem tfl178_8 : tFld Try.prog 178 8 = some (8, 174) := by kernel_rfl
theorem tfp178_8 : fldPlace Try.prog 178 8 = some (8, 1) := by kernel_rfl
theorem tfl178_9 : tFld Try.prog 178 9 = some (9, 175) := by kernel_rfl
theorem tfp178_9 : fldPlace Try.prog 178 9 = some (9, 1) := by kernel_rfl
theorem tfl178_10 : tFld Try.prog 178 10 = some (10, 176) := by kernel_rfl
theorem tfp178_10 : fldPlace Try.prog 178 10 = some (10, 1) := by kernel_rfl
theorem tbo178 : bldOk Try.prog 178 = true := by kernel_rfl
theorem tsz183 : tSz Try.prog 183 = some 1 := by kernel_rfl
theorem tby183 : tBytes Try.prog 183 = some 8 := by kernel_rfl
theorem tag183 : tAgg Try.prog 183 = some false := by kernel_rfl
theorem tze183 : tZero Try.prog 183 = some [.int .u64 0] := by kernel_rfl
theorem tk183 : tK Try.prog 183 = .int .u64 := by kernel_rfl
end Go.Proofs.Ytpcgnmoogjahbaa
