/- What functions of the program answer, walked on the abstract layer, and closed facts of the program; the conditions stand in each theorem. -/
import Derived.Test.YtlhkfjannhhcbaaGreatDoorG3
import Derived.Test.YtlhkfjannhhcbaaGreatDoorProg
import Derived.OrdersIn
/- part TyS -/
set_option maxRecDepth 100000
namespace Go.Proofs.YtlhkfjannhhcbaaGreatDoor
open Go Go.W

noncomputable def C : Cx := { P := Tryz.prog, g := fun i => if i = 0 then .pd [.s (.string ⟨#[43]⟩), .s (.string ⟨#[45]⟩), .s (.string ⟨#[42]⟩), .s (.string ⟨#[47]⟩), .s (.string ⟨#[37]⟩), .s (.string ⟨#[60]⟩), .s (.string ⟨#[60, 61]⟩), .s (.string ⟨#[61]⟩), .s (.string ⟨#[110, 111, 116]⟩), .s (.string ⟨#[97, 116]⟩), .s (.string ⟨#[108, 101, 110]⟩), .s (.string ⟨#[112, 117, 116]⟩), .s (.string ⟨#[106, 111, 105, 110]⟩), .s (.string ⟨#[112, 114, 105, 110, 116]⟩)] else .any }
theorem cp : C.P = Tryz.prog := rfl
theorem cg0 : C.g 0 = .pd [.s (.string ⟨#[43]⟩), .s (.string ⟨#[45]⟩), .s (.string ⟨#[42]⟩), .s (.string ⟨#[47]⟩), .s (.string ⟨#[37]⟩), .s (.string ⟨#[60]⟩), .s (.string ⟨#[60, 61]⟩), .s (.string ⟨#[61]⟩), .s (.string ⟨#[110, 111, 116]⟩), .s (.string ⟨#[97, 116]⟩), .s (.string ⟨#[108, 101, 110]⟩), .s (.string ⟨#[112, 117, 116]⟩), .s (.string ⟨#[106, 111, 105, 110]⟩), .s (.string ⟨#[112, 114, 105, 110, 116]⟩)] := rfl
theorem ty1 : tSz C.P 1 = some 1 ∧ tBytes C.P 1 = some 8 ∧ tAgg C.P 1 = some false ∧ tZ C.P 1 = some [.s .nilFunc] ∧ tK C.P 1 = .func := ⟨by kernel_rfl, by kernel_rfl, by kernel_rfl, by kernel_rfl, by kernel_rfl⟩
theorem ty2 : tSz C.P 2 = some 1 ∧ tBytes C.P 2 = some 8 ∧ tAgg C.P 2 = some false ∧ tZ C.P 2 = some [.s (.int .i64 0)] ∧ tK C.P 2 = .int .i64 := ⟨by kernel_rfl, by kernel_rfl, by kernel_rfl, by kernel_rfl, by kernel_rfl⟩
theorem ty3 : tSz C.P 3 = some 1 ∧ tBytes C.P 3 = some 8 ∧ tAgg C.P 3 = some false ∧ tZ C.P 3 = some [.s (.int .i64 0)] ∧ tK C.P 3 = .int .i64 := ⟨by kernel_rfl, by kernel_rfl, by kernel_rfl, by kernel_rfl, by kernel_rfl⟩
theorem ty4 : tSz C.P 4 = some 1 ∧ tBytes C.P 4 = some 1 ∧ tAgg C.P 4 = some false ∧ tZ C.P 4 = some [.s (.bool false)] ∧ tK C.P 4 = .bool := ⟨by kernel_rfl, by kernel_rfl, by kernel_rfl, by kernel_rfl, by kernel_rfl⟩
theorem ty5 : tSz C.P 5 = some 1 ∧ tBytes C.P 5 = some 1 ∧ tAgg C.P 5 = some false ∧ tZ C.P 5 = some [.s (.int .u8 0)] ∧ tK C.P 5 = .int .u8 := ⟨by kernel_rfl, by kernel_rfl, by kernel_rfl, by kernel_rfl, by kernel_rfl⟩
theorem ty6 : tSz C.P 6 = some 1 ∧ tBytes C.P 6 = some 1 ∧ tAgg C.P 6 = some false ∧ tZ C.P 6 = some [.s (.int .u8 0)] ∧ tK C.P 6 = .int .u8 := ⟨by kernel_rfl, by kernel_rfl, by kernel_rfl, by kernel_rfl, by kernel_rfl⟩
theorem ty7 : tSz C.P 7 = some 4 ∧ tBytes C.P 7 = some 24 ∧ tAgg C.P 7 = some true ∧ tZ C.P 7 = some [.s (.int .i64 0), .s (.int .i64 0), .s (.bool false), .s (.int .u8 0)] ∧ tK C.P 7 = .other ∧ tFld C.P 7 0 = some (0, 2) ∧ fldPlace C.P 7 0 = some (0, 1) ∧ tFld C.P 7 1 = some (1, 3) ∧ fldPlace C.P 7 1 = some (1, 1) ∧ tFld C.P 7 2 = some (2, 4) ∧ fldPlace C.P 7 2 = some (2, 1) ∧ tFld C.P 7 3 = some (3, 6) ∧ fldPlace C.P 7 3 = some (3, 1) ∧ bldOk C.P 7 = true := ⟨by kernel_rfl, by kernel_rfl, by kernel_rfl, by kernel_rfl, by kernel_rfl, by kernel_rfl, by kernel_rfl, by kernel_rfl, by kernel_rfl, by kernel_rfl, by kernel_rfl, by kernel_rfl, by kernel_rfl, by kernel_rfl⟩
theorem ty8 : tSz C.P 8 = some 4 ∧ tBytes C.P 8 = some 24 ∧ tAgg C.P 8 = some true ∧ tZ C.P 8 = some [.s (.int .i64 0), .s (.int .i64 0), .s (.bool false), .s (.int .u8 0)] ∧ tK C.P 8 = .other ∧ tFld C.P 8 0 = some (0, 2) ∧ fldPlace C.P 8 0 = some (0, 1) ∧ tFld C.P 8 1 = some (1, 3) ∧ fldPlace C.P 8 1 = some (1, 1) ∧ tFld C.P 8 2 = some (2, 4) ∧ fldPlace C.P 8 2 = some (2, 1) ∧ tFld C.P 8 3 = some (3, 6) ∧ fldPlace C.P 8 3 = some (3, 1) ∧ bldOk C.P 8 = true := ⟨by kernel_rfl, by kernel_rfl, by kernel_rfl, by kernel_rfl, by kernel_rfl, by kernel_rfl, by kernel_rfl, by kernel_rfl, by kernel_rfl, by kernel_rfl, by kernel_rfl, by kernel_rfl, by kernel_rfl, by kernel_rfl⟩
theorem ty9 : tSz C.P 9 = some 1 ∧ tBytes C.P 9 = some 16 ∧ tAgg C.P 9 = some false ∧ tZ C.P 9 = some [.s (.string ⟨#[]⟩)] ∧ tK C.P 9 = .string := ⟨by kernel_rfl, by kernel_rfl, by kernel_rfl, by kernel_rfl, by kernel_rfl⟩
theorem ty10 : tSz C.P 10 = some 1 ∧ tBytes C.P 10 = some 16 ∧ tAgg C.P 10 = some false ∧ tZ C.P 10 = some [.s (.string ⟨#[]⟩)] ∧ tK C.P 10 = .string := ⟨by kernel_rfl, by kernel_rfl, by kernel_rfl, by kernel_rfl, by kernel_rfl⟩
theorem ty11 : tSz C.P 11 = some 1 ∧ tBytes C.P 11 = some 16 ∧ tAgg C.P 11 = some false ∧ tZ C.P 11 = some [.s (.string ⟨#[]⟩)] ∧ tK C.P 11 = .string := ⟨by kernel_rfl, by kernel_rfl, by kernel_rfl, by kernel_rfl, by kernel_rfl⟩
theorem ty12 : tSz C.P 12 = some 1 ∧ tBytes C.P 12 = some 8 ∧ tAgg C.P 12 = some false ∧ tZ C.P 12 = some [.s (.int .u64 0)] ∧ tK C.P 12 = .int .u64 := ⟨by kernel_rfl, by kernel_rfl, by kernel_rfl, by kernel_rfl, by kernel_rfl⟩
theorem ty13 : tSz C.P 13 = some 2 ∧ tBytes C.P 13 = some 24 ∧ tAgg C.P 13 = some true ∧ tZ C.P 13 = some [.s (.string ⟨#[]⟩), .s (.int .u64 0)] ∧ tK C.P 13 = .other ∧ tFld C.P 13 0 = some (0, 9) ∧ fldPlace C.P 13 0 = some (0, 1) ∧ tFld C.P 13 1 = some (1, 12) ∧ fldPlace C.P 13 1 = some (1, 1) ∧ bldOk C.P 13 = true := ⟨by kernel_rfl, by kernel_rfl, by kernel_rfl, by kernel_rfl, by kernel_rfl, by kernel_rfl, by kernel_rfl, by kernel_rfl, by kernel_rfl, by kernel_rfl⟩
theorem ty14 : tSz C.P 14 = some 2 ∧ tBytes C.P 14 = some 24 ∧ tAgg C.P 14 = some true ∧ tZ C.P 14 = some [.s (.string ⟨#[]⟩), .s (.int .u64 0)] ∧ tK C.P 14 = .other ∧ tFld C.P 14 0 = some (0, 9) ∧ fldPlace C.P 14 0 = some (0, 1) ∧ tFld C.P 14 1 = some (1, 12) ∧ fldPlace C.P 14 1 = some (1, 1) ∧ bldOk C.P 14 = true := ⟨by kernel_rfl, by kernel_rfl, by kernel_rfl, by kernel_rfl, by kernel_rfl, by kernel_rfl, by kernel_rfl, by kernel_rfl, by kernel_rfl, by kernel_rfl⟩
theorem ty15 : tSz C.P 15 = some 1 ∧ tBytes C.P 15 = some 8 ∧ tAgg C.P 15 = some false ∧ tZ C.P 15 = some [.s (.pointer none)] ∧ tK C.P 15 = .ptr := ⟨by kernel_rfl, by kernel_rfl, by kernel_rfl, by kernel_rfl, by kernel_rfl⟩
theorem ty16 : tSz C.P 16 = some 1 ∧ tBytes C.P 16 = some 8 ∧ tAgg C.P 16 = some false ∧ tZ C.P 16 = some [.s (.pointer none)] ∧ tK C.P 16 = .ptr := ⟨by kernel_rfl, by kernel_rfl, by kernel_rfl, by kernel_rfl, by kernel_rfl⟩
theorem ty17 : tSz C.P 17 = some 1 ∧ tBytes C.P 17 = some 8 ∧ tAgg C.P 17 = some false ∧ tZ C.P 17 = some [.s (.pointer none)] ∧ tK C.P 17 = .ptr := ⟨by kernel_rfl, by kernel_rfl, by kernel_rfl, by kernel_rfl, by kernel_rfl⟩
theorem ty18 : tSz C.P 18 = some 1 ∧ tBytes C.P 18 = some 8 ∧ tAgg C.P 18 = some true ∧ tZ C.P 18 = some [.s (.pointer none)] ∧ tK C.P 18 = .other ∧ tFld C.P 18 0 = some (0, 17) ∧ fldPlace C.P 18 0 = some (0, 1) ∧ bldOk C.P 18 = true := ⟨by kernel_rfl, by kernel_rfl, by kernel_rfl, by kernel_rfl, by kernel_rfl, by kernel_rfl, by kernel_rfl, by kernel_rfl⟩
theorem ty19 : tSz C.P 19 = some 1 ∧ tBytes C.P 19 = some 8 ∧ tAgg C.P 19 = some true ∧ tZ C.P 19 = some [.s (.pointer none)] ∧ tK C.P 19 = .other ∧ tFld C.P 19 0 = some (0, 17) ∧ fldPlace C.P 19 0 = some (0, 1) ∧ bldOk C.P 19 = true := ⟨by kernel_rfl, by kernel_rfl, by kernel_rfl, by kernel_rfl, by kernel_rfl, by kernel_rfl, by kernel_rfl, by kernel_rfl⟩
theorem ty20 : tSz C.P 20 = some 1 ∧ tBytes C.P 20 = some 16 ∧ tAgg C.P 20 = some false ∧ tZ C.P 20 = some [.s .nilIface] ∧ tK C.P 20 = .iface := ⟨by kernel_rfl, by kernel_rfl, by kernel_rfl, by kernel_rfl, by kernel_rfl⟩
theorem ty21 : tSz C.P 21 = some 1 ∧ tBytes C.P 21 = some 4 ∧ tAgg C.P 21 = some false ∧ tZ C.P 21 = some [.s (.int .i32 0)] ∧ tK C.P 21 = .int .i32 := ⟨by kernel_rfl, by kernel_rfl, by kernel_rfl, by kernel_rfl, by kernel_rfl⟩
theorem ty22 : tSz C.P 22 = some 1 ∧ tBytes C.P 22 = some 24 ∧ tAgg C.P 22 = some false ∧ tZ C.P 22 = some [.z] ∧ tK C.P 22 = .slice 68 ∧ tElem C.P 22 = some 68 := ⟨by kernel_rfl, by kernel_rfl, by kernel_rfl, by kernel_rfl, by kernel_rfl, by kernel_rfl⟩
theorem ty23 : tSz C.P 23 = some 1 ∧ tBytes C.P 23 = some 24 ∧ tAgg C.P 23 = some false ∧ tZ C.P 23 = some [.z] ∧ tK C.P 23 = .slice 3 ∧ tElem C.P 23 = some 3 := ⟨by kernel_rfl, by kernel_rfl, by kernel_rfl, by kernel_rfl, by kernel_rfl, by kernel_rfl⟩
theorem ty24 : tSz C.P 24 = some 2 ∧ tBytes C.P 24 = some 48 ∧ tAgg C.P 24 = some true ∧ tZ C.P 24 = some [.z, .z] ∧ tK C.P 24 = .other ∧ tFld C.P 24 0 = some (0, 22) ∧ fldPlace C.P 24 0 = some (0, 1) ∧ tFld C.P 24 1 = some (1, 23) ∧ fldPlace C.P 24 1 = some (1, 1) ∧ bldOk C.P 24 = true := ⟨by kernel_rfl, by kernel_rfl, by kernel_rfl, by kernel_rfl, by kernel_rfl, by kernel_rfl, by kernel_rfl, by kernel_rfl, by kernel_rfl, by kernel_rfl⟩
theorem ty25 : tSz C.P 25 = some 2 ∧ tBytes C.P 25 = some 48 ∧ tAgg C.P 25 = some true ∧ tZ C.P 25 = some [.z, .z] ∧ tK C.P 25 = .other ∧ tFld C.P 25 0 = some (0, 22) ∧ fldPlace C.P 25 0 = some (0, 1) ∧ tFld C.P 25 1 = some (1, 23) ∧ fldPlace C.P 25 1 = some (1, 1) ∧ bldOk C.P 25 = true := ⟨by kernel_rfl, by kernel_rfl, by kernel_rfl, by kernel_rfl, by kernel_rfl, by kernel_rfl, by kernel_rfl, by kernel_rfl, by kernel_rfl, by kernel_rfl⟩
theorem ty26 : tSz C.P 26 = some 1 ∧ tBytes C.P 26 = some 8 ∧ tAgg C.P 26 = some false ∧ tZ C.P 26 = some [.s .nilFunc] ∧ tK C.P 26 = .func := ⟨by kernel_rfl, by kernel_rfl, by kernel_rfl, by kernel_rfl, by kernel_rfl⟩
theorem ty27 : tSz C.P 27 = some 1 ∧ tBytes C.P 27 = some 8 ∧ tAgg C.P 27 = some false ∧ tZ C.P 27 = some [.s .nilFunc] ∧ tK C.P 27 = .func := ⟨by kernel_rfl, by kernel_rfl, by kernel_rfl, by kernel_rfl, by kernel_rfl⟩
theorem ty28 : tSz C.P 28 = some 1 ∧ tBytes C.P 28 = some 24 ∧ tAgg C.P 28 = some false ∧ tZ C.P 28 = some [.z] ∧ tK C.P 28 = .slice 72 ∧ tElem C.P 28 = some 72 := ⟨by kernel_rfl, by kernel_rfl, by kernel_rfl, by kernel_rfl, by kernel_rfl, by kernel_rfl⟩
theorem ty29 : tSz C.P 29 = some 2 ∧ tBytes C.P 29 = some 48 ∧ tAgg C.P 29 = some true ∧ tZ C.P 29 = some [.z, .z] ∧ tK C.P 29 = .other ∧ tFld C.P 29 0 = some (0, 28) ∧ fldPlace C.P 29 0 = some (0, 1) ∧ tFld C.P 29 1 = some (1, 23) ∧ fldPlace C.P 29 1 = some (1, 1) ∧ bldOk C.P 29 = true := ⟨by kernel_rfl, by kernel_rfl, by kernel_rfl, by kernel_rfl, by kernel_rfl, by kernel_rfl, by kernel_rfl, by kernel_rfl, by kernel_rfl, by kernel_rfl⟩
theorem ty30 : tSz C.P 30 = some 2 ∧ tBytes C.P 30 = some 48 ∧ tAgg C.P 30 = some true ∧ tZ C.P 30 = some [.z, .z] ∧ tK C.P 30 = .other ∧ tFld C.P 30 0 = some (0, 28) ∧ fldPlace C.P 30 0 = some (0, 1) ∧ tFld C.P 30 1 = some (1, 23) ∧ fldPlace C.P 30 1 = some (1, 1) ∧ bldOk C.P 30 = true := ⟨by kernel_rfl, by kernel_rfl, by kernel_rfl, by kernel_rfl, by kernel_rfl, by kernel_rfl, by kernel_rfl, by kernel_rfl, by kernel_rfl, by kernel_rfl⟩
theorem ty31 : tSz C.P 31 = some 1 ∧ tBytes C.P 31 = some 8 ∧ tAgg C.P 31 = some false ∧ tZ C.P 31 = some [.s .nilFunc] ∧ tK C.P 31 = .func := ⟨by kernel_rfl, by kernel_rfl, by kernel_rfl, by kernel_rfl, by kernel_rfl⟩
theorem ty32 : tSz C.P 32 = some 1 ∧ tBytes C.P 32 = some 8 ∧ tAgg C.P 32 = some false ∧ tZ C.P 32 = some [.s .nilFunc] ∧ tK C.P 32 = .func := ⟨by kernel_rfl, by kernel_rfl, by kernel_rfl, by kernel_rfl, by kernel_rfl⟩
theorem ty33 : tSz C.P 33 = some 1 ∧ tBytes C.P 33 = some 8 ∧ tAgg C.P 33 = some false ∧ tZ C.P 33 = some [.s .nilFunc] ∧ tK C.P 33 = .func := ⟨by kernel_rfl, by kernel_rfl, by kernel_rfl, by kernel_rfl, by kernel_rfl⟩
theorem ty34 : tSz C.P 34 = some 1 ∧ tBytes C.P 34 = some 8 ∧ tAgg C.P 34 = some false ∧ tZ C.P 34 = some [.s .nilFunc] ∧ tK C.P 34 = .func := ⟨by kernel_rfl, by kernel_rfl, by kernel_rfl, by kernel_rfl, by kernel_rfl⟩
theorem ty35 : tSz C.P 35 = some 1 ∧ tBytes C.P 35 = some 8 ∧ tAgg C.P 35 = some false ∧ tZ C.P 35 = some [.s .nilFunc] ∧ tK C.P 35 = .func := ⟨by kernel_rfl, by kernel_rfl, by kernel_rfl, by kernel_rfl, by kernel_rfl⟩
theorem ty36 : tSz C.P 36 = some 1 ∧ tBytes C.P 36 = some 8 ∧ tAgg C.P 36 = some false ∧ tZ C.P 36 = some [.s .nilFunc] ∧ tK C.P 36 = .func := ⟨by kernel_rfl, by kernel_rfl, by kernel_rfl, by kernel_rfl, by kernel_rfl⟩
theorem ty37 : tSz C.P 37 = some 4 ∧ tBytes C.P 37 = some 48 ∧ tAgg C.P 37 = some true ∧ tZ C.P 37 = some [.s (.int .i64 0), .s (.int .i64 0), .z, .s (.int .i64 0)] ∧ tK C.P 37 = .other ∧ tFld C.P 37 0 = some (0, 3) ∧ fldPlace C.P 37 0 = some (0, 1) ∧ tFld C.P 37 1 = some (1, 3) ∧ fldPlace C.P 37 1 = some (1, 1) ∧ tFld C.P 37 2 = some (2, 23) ∧ fldPlace C.P 37 2 = some (2, 1) ∧ tFld C.P 37 3 = some (3, 3) ∧ fldPlace C.P 37 3 = some (3, 1) ∧ bldOk C.P 37 = true := ⟨by kernel_rfl, by kernel_rfl, by kernel_rfl, by kernel_rfl, by kernel_rfl, by kernel_rfl, by kernel_rfl, by kernel_rfl, by kernel_rfl, by kernel_rfl, by kernel_rfl, by kernel_rfl, by kernel_rfl, by kernel_rfl⟩
theorem ty38 : tSz C.P 38 = some 4 ∧ tBytes C.P 38 = some 48 ∧ tAgg C.P 38 = some true ∧ tZ C.P 38 = some [.s (.int .i64 0), .s (.int .i64 0), .z, .s (.int .i64 0)] ∧ tK C.P 38 = .other ∧ tFld C.P 38 0 = some (0, 3) ∧ fldPlace C.P 38 0 = some (0, 1) ∧ tFld C.P 38 1 = some (1, 3) ∧ fldPlace C.P 38 1 = some (1, 1) ∧ tFld C.P 38 2 = some (2, 23) ∧ fldPlace C.P 38 2 = some (2, 1) ∧ tFld C.P 38 3 = some (3, 3) ∧ fldPlace C.P 38 3 = some (3, 1) ∧ bldOk C.P 38 = true := ⟨by kernel_rfl, by kernel_rfl, by kernel_rfl, by kernel_rfl, by kernel_rfl, by kernel_rfl, by kernel_rfl, by kernel_rfl, by kernel_rfl, by kernel_rfl, by kernel_rfl, by kernel_rfl, by kernel_rfl, by kernel_rfl⟩
theorem ty39 : tSz C.P 39 = some 1 ∧ tBytes C.P 39 = some 8 ∧ tAgg C.P 39 = some false ∧ tZ C.P 39 = some [.s .nilFunc] ∧ tK C.P 39 = .func := ⟨by kernel_rfl, by kernel_rfl, by kernel_rfl, by kernel_rfl, by kernel_rfl⟩
theorem ty40 : tSz C.P 40 = some 1 ∧ tBytes C.P 40 = some 8 ∧ tAgg C.P 40 = some false ∧ tZ C.P 40 = some [.s .nilFunc] ∧ tK C.P 40 = .func := ⟨by kernel_rfl, by kernel_rfl, by kernel_rfl, by kernel_rfl, by kernel_rfl⟩
theorem ty41 : tSz C.P 41 = some 1 ∧ tBytes C.P 41 = some 8 ∧ tAgg C.P 41 = some false ∧ tZ C.P 41 = some [.s .nilFunc] ∧ tK C.P 41 = .func := ⟨by kernel_rfl, by kernel_rfl, by kernel_rfl, by kernel_rfl, by kernel_rfl⟩
theorem ty42 : tSz C.P 42 = some 1 ∧ tBytes C.P 42 = some 24 ∧ tAgg C.P 42 = some false ∧ tZ C.P 42 = some [.z] ∧ tK C.P 42 = .slice 5 ∧ tElem C.P 42 = some 5 := ⟨by kernel_rfl, by kernel_rfl, by kernel_rfl, by kernel_rfl, by kernel_rfl, by kernel_rfl⟩
theorem ty44 : tSz C.P 44 = some 1 ∧ tBytes C.P 44 = some 8 ∧ tAgg C.P 44 = some false ∧ tZ C.P 44 = some [.s .nilFunc] ∧ tK C.P 44 = .func := ⟨by kernel_rfl, by kernel_rfl, by kernel_rfl, by kernel_rfl, by kernel_rfl⟩
theorem ty45 : tSz C.P 45 = some 1 ∧ tBytes C.P 45 = some 8 ∧ tAgg C.P 45 = some false ∧ tZ C.P 45 = some [.s .nilFunc] ∧ tK C.P 45 = .func := ⟨by kernel_rfl, by kernel_rfl, by kernel_rfl, by kernel_rfl, by kernel_rfl⟩
theorem ty46 : tSz C.P 46 = some 1 ∧ tBytes C.P 46 = some 8 ∧ tAgg C.P 46 = some false ∧ tZ C.P 46 = some [.s .nilFunc] ∧ tK C.P 46 = .func := ⟨by kernel_rfl, by kernel_rfl, by kernel_rfl, by kernel_rfl, by kernel_rfl⟩
theorem ty47 : tSz C.P 47 = some 1 ∧ tBytes C.P 47 = some 8 ∧ tAgg C.P 47 = some false ∧ tZ C.P 47 = some [.s .nilFunc] ∧ tK C.P 47 = .func := ⟨by kernel_rfl, by kernel_rfl, by kernel_rfl, by kernel_rfl, by kernel_rfl⟩
theorem ty48 : tSz C.P 48 = some 1 ∧ tBytes C.P 48 = some 8 ∧ tAgg C.P 48 = some false ∧ tZ C.P 48 = some [.s (.pointer none)] ∧ tK C.P 48 = .ptr := ⟨by kernel_rfl, by kernel_rfl, by kernel_rfl, by kernel_rfl, by kernel_rfl⟩
theorem ty49 : tSz C.P 49 = some 1 ∧ tBytes C.P 49 = some 8 ∧ tAgg C.P 49 = some false ∧ tZ C.P 49 = some [.s .nilFunc] ∧ tK C.P 49 = .func := ⟨by kernel_rfl, by kernel_rfl, by kernel_rfl, by kernel_rfl, by kernel_rfl⟩
theorem ty50 : tSz C.P 50 = some 11 ∧ tBytes C.P 50 = some 184 ∧ tAgg C.P 50 = some true ∧ tZ C.P 50 = some [.z, .z, .s (.int .i64 0), .s (.int .i64 0), .s (.int .i64 0), .z, .s (.int .i64 0), .s (.bool false), .z, .z, .z] ∧ tK C.P 50 = .other ∧ tFld C.P 50 0 = some (0, 30) ∧ fldPlace C.P 50 0 = some (0, 2) ∧ tFld C.P 50 1 = some (2, 3) ∧ fldPlace C.P 50 1 = some (2, 1) ∧ tFld C.P 50 2 = some (3, 38) ∧ fldPlace C.P 50 2 = some (3, 4) ∧ tFld C.P 50 3 = some (7, 4) ∧ fldPlace C.P 50 3 = some (7, 1) ∧ tFld C.P 50 4 = some (8, 23) ∧ fldPlace C.P 50 4 = some (8, 1) ∧ tFld C.P 50 5 = some (9, 23) ∧ fldPlace C.P 50 5 = some (9, 1) ∧ tFld C.P 50 6 = some (10, 23) ∧ fldPlace C.P 50 6 = some (10, 1) ∧ bldOk C.P 50 = true := ⟨by kernel_rfl, by kernel_rfl, by kernel_rfl, by kernel_rfl, by kernel_rfl, by kernel_rfl, by kernel_rfl, by kernel_rfl, by kernel_rfl, by kernel_rfl, by kernel_rfl, by kernel_rfl, by kernel_rfl, by kernel_rfl, by kernel_rfl, by kernel_rfl, by kernel_rfl, by kernel_rfl, by kernel_rfl, by kernel_rfl⟩
theorem ty51 : tSz C.P 51 = some 11 ∧ tBytes C.P 51 = some 184 ∧ tAgg C.P 51 = some true ∧ tZ C.P 51 = some [.z, .z, .s (.int .i64 0), .s (.int .i64 0), .s (.int .i64 0), .z, .s (.int .i64 0), .s (.bool false), .z, .z, .z] ∧ tK C.P 51 = .other ∧ tFld C.P 51 0 = some (0, 30) ∧ fldPlace C.P 51 0 = some (0, 2) ∧ tFld C.P 51 1 = some (2, 3) ∧ fldPlace C.P 51 1 = some (2, 1) ∧ tFld C.P 51 2 = some (3, 38) ∧ fldPlace C.P 51 2 = some (3, 4) ∧ tFld C.P 51 3 = some (7, 4) ∧ fldPlace C.P 51 3 = some (7, 1) ∧ tFld C.P 51 4 = some (8, 23) ∧ fldPlace C.P 51 4 = some (8, 1) ∧ tFld C.P 51 5 = some (9, 23) ∧ fldPlace C.P 51 5 = some (9, 1) ∧ tFld C.P 51 6 = some (10, 23) ∧ fldPlace C.P 51 6 = some (10, 1) ∧ bldOk C.P 51 = true := ⟨by kernel_rfl, by kernel_rfl, by kernel_rfl, by kernel_rfl, by kernel_rfl, by kernel_rfl, by kernel_rfl, by kernel_rfl, by kernel_rfl, by kernel_rfl, by kernel_rfl, by kernel_rfl, by kernel_rfl, by kernel_rfl, by kernel_rfl, by kernel_rfl, by kernel_rfl, by kernel_rfl, by kernel_rfl, by kernel_rfl⟩
theorem ty52 : tSz C.P 52 = some 1 ∧ tBytes C.P 52 = some 8 ∧ tAgg C.P 52 = some false ∧ tZ C.P 52 = some [.s .nilFunc] ∧ tK C.P 52 = .func := ⟨by kernel_rfl, by kernel_rfl, by kernel_rfl, by kernel_rfl, by kernel_rfl⟩
theorem ty55 : tSz C.P 55 = some 1 ∧ tBytes C.P 55 = some 8 ∧ tAgg C.P 55 = some false ∧ tZ C.P 55 = some [.s .nilFunc] ∧ tK C.P 55 = .func := ⟨by kernel_rfl, by kernel_rfl, by kernel_rfl, by kernel_rfl, by kernel_rfl⟩
theorem ty56 : tSz C.P 56 = some 1 ∧ tBytes C.P 56 = some 8 ∧ tAgg C.P 56 = some false ∧ tZ C.P 56 = some [.s .nilFunc] ∧ tK C.P 56 = .func := ⟨by kernel_rfl, by kernel_rfl, by kernel_rfl, by kernel_rfl, by kernel_rfl⟩
theorem ty57 : tSz C.P 57 = some 1 ∧ tBytes C.P 57 = some 8 ∧ tAgg C.P 57 = some false ∧ tZ C.P 57 = some [.s .nilFunc] ∧ tK C.P 57 = .func := ⟨by kernel_rfl, by kernel_rfl, by kernel_rfl, by kernel_rfl, by kernel_rfl⟩
theorem ty58 : tSz C.P 58 = some 1 ∧ tBytes C.P 58 = some 8 ∧ tAgg C.P 58 = some false ∧ tZ C.P 58 = some [.s .nilFunc] ∧ tK C.P 58 = .func := ⟨by kernel_rfl, by kernel_rfl, by kernel_rfl, by kernel_rfl, by kernel_rfl⟩
theorem ty60 : tSz C.P 60 = some 1 ∧ tBytes C.P 60 = some 8 ∧ tAgg C.P 60 = some false ∧ tZ C.P 60 = some [.s .nilFunc] ∧ tK C.P 60 = .func := ⟨by kernel_rfl, by kernel_rfl, by kernel_rfl, by kernel_rfl, by kernel_rfl⟩
theorem ty61 : tSz C.P 61 = some 1 ∧ tBytes C.P 61 = some 8 ∧ tAgg C.P 61 = some false ∧ tZ C.P 61 = some [.s .nilFunc] ∧ tK C.P 61 = .func := ⟨by kernel_rfl, by kernel_rfl, by kernel_rfl, by kernel_rfl, by kernel_rfl⟩
theorem ty63 : tSz C.P 63 = some 1 ∧ tBytes C.P 63 = some 8 ∧ tAgg C.P 63 = some false ∧ tZ C.P 63 = some [.s .nilFunc] ∧ tK C.P 63 = .func := ⟨by kernel_rfl, by kernel_rfl, by kernel_rfl, by kernel_rfl, by kernel_rfl⟩
theorem ty64 : tSz C.P 64 = some 1 ∧ tBytes C.P 64 = some 8 ∧ tAgg C.P 64 = some false ∧ tZ C.P 64 = some [.s .nilFunc] ∧ tK C.P 64 = .func := ⟨by kernel_rfl, by kernel_rfl, by kernel_rfl, by kernel_rfl, by kernel_rfl⟩
theorem ty65 : tSz C.P 65 = some 1 ∧ tBytes C.P 65 = some 8 ∧ tAgg C.P 65 = some false ∧ tZ C.P 65 = some [.s .nilFunc] ∧ tK C.P 65 = .func := ⟨by kernel_rfl, by kernel_rfl, by kernel_rfl, by kernel_rfl, by kernel_rfl⟩
theorem ty66 : tSz C.P 66 = some 1 ∧ tBytes C.P 66 = some 24 ∧ tAgg C.P 66 = some false ∧ tZ C.P 66 = some [.z] ∧ tK C.P 66 = .slice 150 ∧ tElem C.P 66 = some 150 := ⟨by kernel_rfl, by kernel_rfl, by kernel_rfl, by kernel_rfl, by kernel_rfl, by kernel_rfl⟩
theorem ty67 : tSz C.P 67 = some 6 ∧ tBytes C.P 67 = some 96 ∧ tAgg C.P 67 = some true ∧ tZ C.P 67 = some [.s (.string ⟨#[]⟩), .s (.string ⟨#[]⟩), .z, .s (.int .i64 0), .s (.int .i64 0), .z] ∧ tK C.P 67 = .other ∧ tFld C.P 67 0 = some (0, 9) ∧ fldPlace C.P 67 0 = some (0, 1) ∧ tFld C.P 67 1 = some (1, 9) ∧ fldPlace C.P 67 1 = some (1, 1) ∧ tFld C.P 67 2 = some (2, 23) ∧ fldPlace C.P 67 2 = some (2, 1) ∧ tFld C.P 67 3 = some (3, 3) ∧ fldPlace C.P 67 3 = some (3, 1) ∧ tFld C.P 67 4 = some (4, 3) ∧ fldPlace C.P 67 4 = some (4, 1) ∧ tFld C.P 67 5 = some (5, 66) ∧ fldPlace C.P 67 5 = some (5, 1) ∧ bldOk C.P 67 = true := ⟨by kernel_rfl, by kernel_rfl, by kernel_rfl, by kernel_rfl, by kernel_rfl, by kernel_rfl, by kernel_rfl, by kernel_rfl, by kernel_rfl, by kernel_rfl, by kernel_rfl, by kernel_rfl, by kernel_rfl, by kernel_rfl, by kernel_rfl, by kernel_rfl, by kernel_rfl, by kernel_rfl⟩
theorem ty68 : tSz C.P 68 = some 6 ∧ tBytes C.P 68 = some 96 ∧ tAgg C.P 68 = some true ∧ tZ C.P 68 = some [.s (.string ⟨#[]⟩), .s (.string ⟨#[]⟩), .z, .s (.int .i64 0), .s (.int .i64 0), .z] ∧ tK C.P 68 = .other ∧ tFld C.P 68 0 = some (0, 9) ∧ fldPlace C.P 68 0 = some (0, 1) ∧ tFld C.P 68 1 = some (1, 9) ∧ fldPlace C.P 68 1 = some (1, 1) ∧ tFld C.P 68 2 = some (2, 23) ∧ fldPlace C.P 68 2 = some (2, 1) ∧ tFld C.P 68 3 = some (3, 3) ∧ fldPlace C.P 68 3 = some (3, 1) ∧ tFld C.P 68 4 = some (4, 3) ∧ fldPlace C.P 68 4 = some (4, 1) ∧ tFld C.P 68 5 = some (5, 66) ∧ fldPlace C.P 68 5 = some (5, 1) ∧ bldOk C.P 68 = true := ⟨by kernel_rfl, by kernel_rfl, by kernel_rfl, by kernel_rfl, by kernel_rfl, by kernel_rfl, by kernel_rfl, by kernel_rfl, by kernel_rfl, by kernel_rfl, by kernel_rfl, by kernel_rfl, by kernel_rfl, by kernel_rfl, by kernel_rfl, by kernel_rfl, by kernel_rfl, by kernel_rfl⟩
theorem ty69 : tSz C.P 69 = some 1 ∧ tBytes C.P 69 = some 8 ∧ tAgg C.P 69 = some false ∧ tZ C.P 69 = some [.s .nilFunc] ∧ tK C.P 69 = .func := ⟨by kernel_rfl, by kernel_rfl, by kernel_rfl, by kernel_rfl, by kernel_rfl⟩
theorem ty70 : tSz C.P 70 = some 1 ∧ tBytes C.P 70 = some 24 ∧ tAgg C.P 70 = some false ∧ tZ C.P 70 = some [.z] ∧ tK C.P 70 = .slice 90 ∧ tElem C.P 70 = some 90 := ⟨by kernel_rfl, by kernel_rfl, by kernel_rfl, by kernel_rfl, by kernel_rfl, by kernel_rfl⟩
theorem ty71 : tSz C.P 71 = some 6 ∧ tBytes C.P 71 = some 96 ∧ tAgg C.P 71 = some true ∧ tZ C.P 71 = some [.s (.string ⟨#[]⟩), .s (.string ⟨#[]⟩), .z, .s (.int .i64 0), .s (.int .i64 0), .z] ∧ tK C.P 71 = .other ∧ tFld C.P 71 0 = some (0, 9) ∧ fldPlace C.P 71 0 = some (0, 1) ∧ tFld C.P 71 1 = some (1, 9) ∧ fldPlace C.P 71 1 = some (1, 1) ∧ tFld C.P 71 2 = some (2, 23) ∧ fldPlace C.P 71 2 = some (2, 1) ∧ tFld C.P 71 3 = some (3, 3) ∧ fldPlace C.P 71 3 = some (3, 1) ∧ tFld C.P 71 4 = some (4, 3) ∧ fldPlace C.P 71 4 = some (4, 1) ∧ tFld C.P 71 5 = some (5, 70) ∧ fldPlace C.P 71 5 = some (5, 1) ∧ bldOk C.P 71 = true := ⟨by kernel_rfl, by kernel_rfl, by kernel_rfl, by kernel_rfl, by kernel_rfl, by kernel_rfl, by kernel_rfl, by kernel_rfl, by kernel_rfl, by kernel_rfl, by kernel_rfl, by kernel_rfl, by kernel_rfl, by kernel_rfl, by kernel_rfl, by kernel_rfl, by kernel_rfl, by kernel_rfl⟩
theorem ty72 : tSz C.P 72 = some 6 ∧ tBytes C.P 72 = some 96 ∧ tAgg C.P 72 = some true ∧ tZ C.P 72 = some [.s (.string ⟨#[]⟩), .s (.string ⟨#[]⟩), .z, .s (.int .i64 0), .s (.int .i64 0), .z] ∧ tK C.P 72 = .other ∧ tFld C.P 72 0 = some (0, 9) ∧ fldPlace C.P 72 0 = some (0, 1) ∧ tFld C.P 72 1 = some (1, 9) ∧ fldPlace C.P 72 1 = some (1, 1) ∧ tFld C.P 72 2 = some (2, 23) ∧ fldPlace C.P 72 2 = some (2, 1) ∧ tFld C.P 72 3 = some (3, 3) ∧ fldPlace C.P 72 3 = some (3, 1) ∧ tFld C.P 72 4 = some (4, 3) ∧ fldPlace C.P 72 4 = some (4, 1) ∧ tFld C.P 72 5 = some (5, 70) ∧ fldPlace C.P 72 5 = some (5, 1) ∧ bldOk C.P 72 = true := ⟨by kernel_rfl, by kernel_rfl, by kernel_rfl, by kernel_rfl, by kernel_rfl, by kernel_rfl, by kernel_rfl, by kernel_rfl, by kernel_rfl, by kernel_rfl, by kernel_rfl, by kernel_rfl, by kernel_rfl, by kernel_rfl, by kernel_rfl, by kernel_rfl, by kernel_rfl, by kernel_rfl⟩
theorem ty74 : tSz C.P 74 = some 3 ∧ tBytes C.P 74 = some 40 ∧ tAgg C.P 74 = some true ∧ tZ C.P 74 = some [.s (.int .i64 0), .s (.int .i64 0), .z] ∧ tK C.P 74 = .other ∧ tFld C.P 74 0 = some (0, 3) ∧ fldPlace C.P 74 0 = some (0, 1) ∧ tFld C.P 74 1 = some (1, 3) ∧ fldPlace C.P 74 1 = some (1, 1) ∧ tFld C.P 74 2 = some (2, 23) ∧ fldPlace C.P 74 2 = some (2, 1) ∧ bldOk C.P 74 = true := ⟨by kernel_rfl, by kernel_rfl, by kernel_rfl, by kernel_rfl, by kernel_rfl, by kernel_rfl, by kernel_rfl, by kernel_rfl, by kernel_rfl, by kernel_rfl, by kernel_rfl, by kernel_rfl⟩
theorem ty78 : tSz C.P 78 = some 1 ∧ tBytes C.P 78 = some 8 ∧ tAgg C.P 78 = some false ∧ tZ C.P 78 = some [.s (.pointer none)] ∧ tK C.P 78 = .ptr := ⟨by kernel_rfl, by kernel_rfl, by kernel_rfl, by kernel_rfl, by kernel_rfl⟩
theorem ty80 : tSz C.P 80 = some 7 ∧ tBytes C.P 80 = some 104 ∧ tAgg C.P 80 = some true ∧ tZ C.P 80 = some [.z, .z, .s (.int .i64 0), .s (.int .i64 0), .z, .s .nilFunc, .s .nilFunc] ∧ tK C.P 80 = .other ∧ tFld C.P 80 0 = some (0, 30) ∧ fldPlace C.P 80 0 = some (0, 2) ∧ tFld C.P 80 1 = some (2, 3) ∧ fldPlace C.P 80 1 = some (2, 1) ∧ tFld C.P 80 2 = some (3, 3) ∧ fldPlace C.P 80 2 = some (3, 1) ∧ tFld C.P 80 3 = some (4, 23) ∧ fldPlace C.P 80 3 = some (4, 1) ∧ tFld C.P 80 4 = some (5, 55) ∧ fldPlace C.P 80 4 = some (5, 1) ∧ tFld C.P 80 5 = some (6, 56) ∧ fldPlace C.P 80 5 = some (6, 1) ∧ bldOk C.P 80 = true := ⟨by kernel_rfl, by kernel_rfl, by kernel_rfl, by kernel_rfl, by kernel_rfl, by kernel_rfl, by kernel_rfl, by kernel_rfl, by kernel_rfl, by kernel_rfl, by kernel_rfl, by kernel_rfl, by kernel_rfl, by kernel_rfl, by kernel_rfl, by kernel_rfl, by kernel_rfl, by kernel_rfl⟩
theorem ty81 : tSz C.P 81 = some 2 ∧ tBytes C.P 81 = some 16 ∧ tAgg C.P 81 = some true ∧ tZ C.P 81 = some [.s (.int .i64 0), .s (.int .i64 0)] ∧ tK C.P 81 = .other ∧ tFld C.P 81 0 = some (0, 3) ∧ fldPlace C.P 81 0 = some (0, 1) ∧ tFld C.P 81 1 = some (1, 3) ∧ fldPlace C.P 81 1 = some (1, 1) ∧ bldOk C.P 81 = true := ⟨by kernel_rfl, by kernel_rfl, by kernel_rfl, by kernel_rfl, by kernel_rfl, by kernel_rfl, by kernel_rfl, by kernel_rfl, by kernel_rfl, by kernel_rfl⟩
theorem ty82 : tSz C.P 82 = some 2 ∧ tBytes C.P 82 = some 16 ∧ tAgg C.P 82 = some true ∧ tZ C.P 82 = some [.s (.int .i64 0), .s (.int .i64 0)] ∧ tK C.P 82 = .other ∧ tFld C.P 82 0 = some (0, 3) ∧ fldPlace C.P 82 0 = some (0, 1) ∧ tFld C.P 82 1 = some (1, 3) ∧ fldPlace C.P 82 1 = some (1, 1) ∧ bldOk C.P 82 = true := ⟨by kernel_rfl, by kernel_rfl, by kernel_rfl, by kernel_rfl, by kernel_rfl, by kernel_rfl, by kernel_rfl, by kernel_rfl, by kernel_rfl, by kernel_rfl⟩
theorem ty90 : tSz C.P 90 = some 2 ∧ tBytes C.P 90 = some 16 ∧ tAgg C.P 90 = some true ∧ tZ C.P 90 = some [.s (.int .i64 0), .s (.int .i64 0)] ∧ tK C.P 90 = .other ∧ tFld C.P 90 0 = some (0, 3) ∧ fldPlace C.P 90 0 = some (0, 1) ∧ tFld C.P 90 1 = some (1, 3) ∧ fldPlace C.P 90 1 = some (1, 1) ∧ bldOk C.P 90 = true := ⟨by kernel_rfl, by kernel_rfl, by kernel_rfl, by kernel_rfl, by kernel_rfl, by kernel_rfl, by kernel_rfl, by kernel_rfl, by kernel_rfl, by kernel_rfl⟩
theorem ty96 : tSz C.P 96 = some 6 ∧ tBytes C.P 96 = some 88 ∧ tAgg C.P 96 = some true ∧ tZ C.P 96 = some [.s (.string ⟨#[]⟩), .s (.bool false), .z, .s (.int .i64 0), .s (.int .i64 0), .z] ∧ tK C.P 96 = .other ∧ tFld C.P 96 0 = some (0, 9) ∧ fldPlace C.P 96 0 = some (0, 1) ∧ tFld C.P 96 1 = some (1, 4) ∧ fldPlace C.P 96 1 = some (1, 1) ∧ tFld C.P 96 2 = some (2, 23) ∧ fldPlace C.P 96 2 = some (2, 1) ∧ tFld C.P 96 3 = some (3, 3) ∧ fldPlace C.P 96 3 = some (3, 1) ∧ tFld C.P 96 4 = some (4, 3) ∧ fldPlace C.P 96 4 = some (4, 1) ∧ tFld C.P 96 5 = some (5, 70) ∧ fldPlace C.P 96 5 = some (5, 1) ∧ bldOk C.P 96 = true := ⟨by kernel_rfl, by kernel_rfl, by kernel_rfl, by kernel_rfl, by kernel_rfl, by kernel_rfl, by kernel_rfl, by kernel_rfl, by kernel_rfl, by kernel_rfl, by kernel_rfl, by kernel_rfl, by kernel_rfl, by kernel_rfl, by kernel_rfl, by kernel_rfl, by kernel_rfl, by kernel_rfl⟩
theorem ty97 : tSz C.P 97 = some 1 ∧ tBytes C.P 97 = some 24 ∧ tAgg C.P 97 = some false ∧ tZ C.P 97 = some [.z] ∧ tK C.P 97 = .slice 74 ∧ tElem C.P 97 = some 74 := ⟨by kernel_rfl, by kernel_rfl, by kernel_rfl, by kernel_rfl, by kernel_rfl, by kernel_rfl⟩
theorem ty98 : tSz C.P 98 = some 1 ∧ tBytes C.P 98 = some 8 ∧ tAgg C.P 98 = some false ∧ tZ C.P 98 = some [.s (.pointer none)] ∧ tK C.P 98 = .ptr := ⟨by kernel_rfl, by kernel_rfl, by kernel_rfl, by kernel_rfl, by kernel_rfl⟩
theorem ty99 : tSz C.P 99 = some 2 ∧ tBytes C.P 99 = some 48 ∧ tAgg C.P 99 = some true ∧ tZ C.P 99 = some [.z, .z] ∧ tK C.P 99 = .other ∧ tFld C.P 99 0 = some (0, 97) ∧ fldPlace C.P 99 0 = some (0, 1) ∧ tFld C.P 99 1 = some (1, 97) ∧ fldPlace C.P 99 1 = some (1, 1) ∧ bldOk C.P 99 = true := ⟨by kernel_rfl, by kernel_rfl, by kernel_rfl, by kernel_rfl, by kernel_rfl, by kernel_rfl, by kernel_rfl, by kernel_rfl, by kernel_rfl, by kernel_rfl⟩
theorem ty100 : tSz C.P 100 = some 2 ∧ tBytes C.P 100 = some 48 ∧ tAgg C.P 100 = some true ∧ tZ C.P 100 = some [.z, .z] ∧ tK C.P 100 = .other ∧ tFld C.P 100 0 = some (0, 97) ∧ fldPlace C.P 100 0 = some (0, 1) ∧ tFld C.P 100 1 = some (1, 97) ∧ fldPlace C.P 100 1 = some (1, 1) ∧ bldOk C.P 100 = true := ⟨by kernel_rfl, by kernel_rfl, by kernel_rfl, by kernel_rfl, by kernel_rfl, by kernel_rfl, by kernel_rfl, by kernel_rfl, by kernel_rfl, by kernel_rfl⟩
theorem ty101 : tSz C.P 101 = some 1 ∧ tBytes C.P 101 = some 8 ∧ tAgg C.P 101 = some false ∧ tZ C.P 101 = some [.s .nilFunc] ∧ tK C.P 101 = .func := ⟨by kernel_rfl, by kernel_rfl, by kernel_rfl, by kernel_rfl, by kernel_rfl⟩
theorem ty102 : tSz C.P 102 = some 1 ∧ tBytes C.P 102 = some 8 ∧ tAgg C.P 102 = some false ∧ tZ C.P 102 = some [.s .nilFunc] ∧ tK C.P 102 = .func := ⟨by kernel_rfl, by kernel_rfl, by kernel_rfl, by kernel_rfl, by kernel_rfl⟩
theorem ty103 : tSz C.P 103 = some 1 ∧ tBytes C.P 103 = some 8 ∧ tAgg C.P 103 = some false ∧ tZ C.P 103 = some [.s .nilFunc] ∧ tK C.P 103 = .func := ⟨by kernel_rfl, by kernel_rfl, by kernel_rfl, by kernel_rfl, by kernel_rfl⟩
theorem ty104 : tSz C.P 104 = some 1 ∧ tBytes C.P 104 = some 8 ∧ tAgg C.P 104 = some false ∧ tZ C.P 104 = some [.s .nilFunc] ∧ tK C.P 104 = .func := ⟨by kernel_rfl, by kernel_rfl, by kernel_rfl, by kernel_rfl, by kernel_rfl⟩
theorem ty105 : tSz C.P 105 = some 1 ∧ tBytes C.P 105 = some 8 ∧ tAgg C.P 105 = some false ∧ tZ C.P 105 = some [.s .nilFunc] ∧ tK C.P 105 = .func := ⟨by kernel_rfl, by kernel_rfl, by kernel_rfl, by kernel_rfl, by kernel_rfl⟩
theorem ty106 : tSz C.P 106 = some 1 ∧ tBytes C.P 106 = some 8 ∧ tAgg C.P 106 = some false ∧ tZ C.P 106 = some [.s .nilFunc] ∧ tK C.P 106 = .func := ⟨by kernel_rfl, by kernel_rfl, by kernel_rfl, by kernel_rfl, by kernel_rfl⟩
theorem ty108 : tSz C.P 108 = some 1 ∧ tBytes C.P 108 = some 8 ∧ tAgg C.P 108 = some false ∧ tZ C.P 108 = some [.s .nilFunc] ∧ tK C.P 108 = .func := ⟨by kernel_rfl, by kernel_rfl, by kernel_rfl, by kernel_rfl, by kernel_rfl⟩
theorem ty109 : tSz C.P 109 = some 1 ∧ tBytes C.P 109 = some 8 ∧ tAgg C.P 109 = some false ∧ tZ C.P 109 = some [.s .nilFunc] ∧ tK C.P 109 = .func := ⟨by kernel_rfl, by kernel_rfl, by kernel_rfl, by kernel_rfl, by kernel_rfl⟩
theorem ty110 : tSz C.P 110 = some 1 ∧ tBytes C.P 110 = some 8 ∧ tAgg C.P 110 = some false ∧ tZ C.P 110 = some [.s .nilFunc] ∧ tK C.P 110 = .func := ⟨by kernel_rfl, by kernel_rfl, by kernel_rfl, by kernel_rfl, by kernel_rfl⟩
theorem ty111 : tSz C.P 111 = some 1 ∧ tBytes C.P 111 = some 8 ∧ tAgg C.P 111 = some false ∧ tZ C.P 111 = some [.s .nilFunc] ∧ tK C.P 111 = .func := ⟨by kernel_rfl, by kernel_rfl, by kernel_rfl, by kernel_rfl, by kernel_rfl⟩
theorem ty112 : tSz C.P 112 = some 1 ∧ tBytes C.P 112 = some 8 ∧ tAgg C.P 112 = some false ∧ tZ C.P 112 = some [.s (.pointer none)] ∧ tK C.P 112 = .ptr := ⟨by kernel_rfl, by kernel_rfl, by kernel_rfl, by kernel_rfl, by kernel_rfl⟩
theorem ty113 : tSz C.P 113 = some 1 ∧ tBytes C.P 113 = some 8 ∧ tAgg C.P 113 = some false ∧ tZ C.P 113 = some [.s .nilFunc] ∧ tK C.P 113 = .func := ⟨by kernel_rfl, by kernel_rfl, by kernel_rfl, by kernel_rfl, by kernel_rfl⟩
theorem ty114 : tSz C.P 114 = some 5 ∧ tBytes C.P 114 = some 72 ∧ tAgg C.P 114 = some true ∧ tZ C.P 114 = some [.s (.int .i64 0), .s (.int .i64 0), .s (.int .i64 0), .z, .z] ∧ tK C.P 114 = .other ∧ tFld C.P 114 0 = some (0, 3) ∧ fldPlace C.P 114 0 = some (0, 1) ∧ tFld C.P 114 1 = some (1, 3) ∧ fldPlace C.P 114 1 = some (1, 1) ∧ tFld C.P 114 2 = some (2, 3) ∧ fldPlace C.P 114 2 = some (2, 1) ∧ tFld C.P 114 3 = some (3, 97) ∧ fldPlace C.P 114 3 = some (3, 1) ∧ tFld C.P 114 4 = some (4, 97) ∧ fldPlace C.P 114 4 = some (4, 1) ∧ bldOk C.P 114 = true := ⟨by kernel_rfl, by kernel_rfl, by kernel_rfl, by kernel_rfl, by kernel_rfl, by kernel_rfl, by kernel_rfl, by kernel_rfl, by kernel_rfl, by kernel_rfl, by kernel_rfl, by kernel_rfl, by kernel_rfl, by kernel_rfl, by kernel_rfl, by kernel_rfl⟩
theorem ty115 : tSz C.P 115 = some 5 ∧ tBytes C.P 115 = some 72 ∧ tAgg C.P 115 = some true ∧ tZ C.P 115 = some [.s (.int .i64 0), .s (.int .i64 0), .s (.int .i64 0), .z, .z] ∧ tK C.P 115 = .other ∧ tFld C.P 115 0 = some (0, 3) ∧ fldPlace C.P 115 0 = some (0, 1) ∧ tFld C.P 115 1 = some (1, 3) ∧ fldPlace C.P 115 1 = some (1, 1) ∧ tFld C.P 115 2 = some (2, 3) ∧ fldPlace C.P 115 2 = some (2, 1) ∧ tFld C.P 115 3 = some (3, 97) ∧ fldPlace C.P 115 3 = some (3, 1) ∧ tFld C.P 115 4 = some (4, 97) ∧ fldPlace C.P 115 4 = some (4, 1) ∧ bldOk C.P 115 = true := ⟨by kernel_rfl, by kernel_rfl, by kernel_rfl, by kernel_rfl, by kernel_rfl, by kernel_rfl, by kernel_rfl, by kernel_rfl, by kernel_rfl, by kernel_rfl, by kernel_rfl, by kernel_rfl, by kernel_rfl, by kernel_rfl, by kernel_rfl, by kernel_rfl⟩
theorem ty116 : tSz C.P 116 = some 1 ∧ tBytes C.P 116 = some 8 ∧ tAgg C.P 116 = some false ∧ tZ C.P 116 = some [.s .nilFunc] ∧ tK C.P 116 = .func := ⟨by kernel_rfl, by kernel_rfl, by kernel_rfl, by kernel_rfl, by kernel_rfl⟩
theorem ty117 : tSz C.P 117 = some 1 ∧ tBytes C.P 117 = some 8 ∧ tAgg C.P 117 = some false ∧ tZ C.P 117 = some [.s .nilFunc] ∧ tK C.P 117 = .func := ⟨by kernel_rfl, by kernel_rfl, by kernel_rfl, by kernel_rfl, by kernel_rfl⟩
theorem ty118 : tSz C.P 118 = some 1 ∧ tBytes C.P 118 = some 8 ∧ tAgg C.P 118 = some false ∧ tZ C.P 118 = some [.s .nilFunc] ∧ tK C.P 118 = .func := ⟨by kernel_rfl, by kernel_rfl, by kernel_rfl, by kernel_rfl, by kernel_rfl⟩
theorem ty119 : tSz C.P 119 = some 1 ∧ tBytes C.P 119 = some 24 ∧ tAgg C.P 119 = some false ∧ tZ C.P 119 = some [.z] ∧ tK C.P 119 = .slice 134 ∧ tElem C.P 119 = some 134 := ⟨by kernel_rfl, by kernel_rfl, by kernel_rfl, by kernel_rfl, by kernel_rfl, by kernel_rfl⟩
theorem ty120 : tSz C.P 120 = some 1 ∧ tBytes C.P 120 = some 8 ∧ tAgg C.P 120 = some false ∧ tZ C.P 120 = some [.s .nilFunc] ∧ tK C.P 120 = .func := ⟨by kernel_rfl, by kernel_rfl, by kernel_rfl, by kernel_rfl, by kernel_rfl⟩
theorem ty122 : tSz C.P 122 = some 1 ∧ tBytes C.P 122 = some 24 ∧ tAgg C.P 122 = some false ∧ tZ C.P 122 = some [.z] ∧ tK C.P 122 = .slice 231 ∧ tElem C.P 122 = some 231 := ⟨by kernel_rfl, by kernel_rfl, by kernel_rfl, by kernel_rfl, by kernel_rfl, by kernel_rfl⟩
theorem ty128 : tSz C.P 128 = some 1 ∧ tBytes C.P 128 = some 24 ∧ tAgg C.P 128 = some false ∧ tZ C.P 128 = some [.z] ∧ tK C.P 128 = .slice 9 ∧ tElem C.P 128 = some 9 := ⟨by kernel_rfl, by kernel_rfl, by kernel_rfl, by kernel_rfl, by kernel_rfl, by kernel_rfl⟩
theorem ty129 : tSz C.P 129 = some 1 ∧ tBytes C.P 129 = some 24 ∧ tAgg C.P 129 = some false ∧ tZ C.P 129 = some [.z] ∧ tK C.P 129 = .slice 177 ∧ tElem C.P 129 = some 177 := ⟨by kernel_rfl, by kernel_rfl, by kernel_rfl, by kernel_rfl, by kernel_rfl, by kernel_rfl⟩
theorem ty130 : tSz C.P 130 = some 1 ∧ tBytes C.P 130 = some 24 ∧ tAgg C.P 130 = some false ∧ tZ C.P 130 = some [.z] ∧ tK C.P 130 = .slice 175 ∧ tElem C.P 130 = some 175 := ⟨by kernel_rfl, by kernel_rfl, by kernel_rfl, by kernel_rfl, by kernel_rfl, by kernel_rfl⟩
theorem ty132 : tSz C.P 132 = some 3 ∧ tBytes C.P 132 = some 72 ∧ tAgg C.P 132 = some true ∧ tZ C.P 132 = some [.z, .z, .z] ∧ tK C.P 132 = .other ∧ tFld C.P 132 0 = some (0, 128) ∧ fldPlace C.P 132 0 = some (0, 1) ∧ tFld C.P 132 1 = some (1, 129) ∧ fldPlace C.P 132 1 = some (1, 1) ∧ tFld C.P 132 2 = some (2, 130) ∧ fldPlace C.P 132 2 = some (2, 1) ∧ bldOk C.P 132 = true := ⟨by kernel_rfl, by kernel_rfl, by kernel_rfl, by kernel_rfl, by kernel_rfl, by kernel_rfl, by kernel_rfl, by kernel_rfl, by kernel_rfl, by kernel_rfl, by kernel_rfl, by kernel_rfl⟩
theorem ty134 : tSz C.P 134 = some 4 ∧ tBytes C.P 134 = some 88 ∧ tAgg C.P 134 = some true ∧ tZ C.P 134 = some [.s (.string ⟨#[]⟩), .z, .z, .z] ∧ tK C.P 134 = .other ∧ tFld C.P 134 0 = some (0, 9) ∧ fldPlace C.P 134 0 = some (0, 1) ∧ tFld C.P 134 1 = some (1, 132) ∧ fldPlace C.P 134 1 = some (1, 3) ∧ bldOk C.P 134 = true := ⟨by kernel_rfl, by kernel_rfl, by kernel_rfl, by kernel_rfl, by kernel_rfl, by kernel_rfl, by kernel_rfl, by kernel_rfl, by kernel_rfl, by kernel_rfl⟩
theorem ty150 : tSz C.P 150 = some 2 ∧ tBytes C.P 150 = some 16 ∧ tAgg C.P 150 = some true ∧ tZ C.P 150 = some [.s (.int .i64 0), .s (.int .i64 0)] ∧ tK C.P 150 = .other ∧ tFld C.P 150 0 = some (0, 3) ∧ fldPlace C.P 150 0 = some (0, 1) ∧ tFld C.P 150 1 = some (1, 3) ∧ fldPlace C.P 150 1 = some (1, 1) ∧ bldOk C.P 150 = true := ⟨by kernel_rfl, by kernel_rfl, by kernel_rfl, by kernel_rfl, by kernel_rfl, by kernel_rfl, by kernel_rfl, by kernel_rfl, by kernel_rfl, by kernel_rfl⟩
theorem ty154 : tSz C.P 154 = some 1 ∧ tBytes C.P 154 = some 24 ∧ tAgg C.P 154 = some false ∧ tZ C.P 154 = some [.z] ∧ tK C.P 154 = .slice 97 ∧ tElem C.P 154 = some 97 := ⟨by kernel_rfl, by kernel_rfl, by kernel_rfl, by kernel_rfl, by kernel_rfl, by kernel_rfl⟩
theorem ty157 : tSz C.P 157 = some 1 ∧ tBytes C.P 157 = some 8 ∧ tAgg C.P 157 = some false ∧ tZ C.P 157 = some [.s (.pointer none)] ∧ tK C.P 157 = .ptr := ⟨by kernel_rfl, by kernel_rfl, by kernel_rfl, by kernel_rfl, by kernel_rfl⟩
theorem ty173 : tSz C.P 173 = some 1 ∧ tBytes C.P 173 = some 24 ∧ tAgg C.P 173 = some false ∧ tZ C.P 173 = some [.z] ∧ tK C.P 173 = .slice 179 ∧ tElem C.P 173 = some 179 := ⟨by kernel_rfl, by kernel_rfl, by kernel_rfl, by kernel_rfl, by kernel_rfl, by kernel_rfl⟩
theorem ty175 : tSz C.P 175 = some 5 ∧ tBytes C.P 175 = some 72 ∧ tAgg C.P 175 = some true ∧ tZ C.P 175 = some [.s (.int .i64 0), .s (.int .i64 0), .s (.string ⟨#[]⟩), .s (.string ⟨#[]⟩), .z] ∧ tK C.P 175 = .other ∧ tFld C.P 175 0 = some (0, 3) ∧ fldPlace C.P 175 0 = some (0, 1) ∧ tFld C.P 175 1 = some (1, 3) ∧ fldPlace C.P 175 1 = some (1, 1) ∧ tFld C.P 175 2 = some (2, 9) ∧ fldPlace C.P 175 2 = some (2, 1) ∧ tFld C.P 175 3 = some (3, 9) ∧ fldPlace C.P 175 3 = some (3, 1) ∧ tFld C.P 175 4 = some (4, 130) ∧ fldPlace C.P 175 4 = some (4, 1) ∧ bldOk C.P 175 = true := ⟨by kernel_rfl, by kernel_rfl, by kernel_rfl, by kernel_rfl, by kernel_rfl, by kernel_rfl, by kernel_rfl, by kernel_rfl, by kernel_rfl, by kernel_rfl, by kernel_rfl, by kernel_rfl, by kernel_rfl, by kernel_rfl, by kernel_rfl, by kernel_rfl⟩
theorem ty177 : tSz C.P 177 = some 9 ∧ tBytes C.P 177 = some 128 ∧ tAgg C.P 177 = some true ∧ tZ C.P 177 = some [.s (.string ⟨#[]⟩), .s (.bool false), .z, .s (.int .i64 0), .s (.int .i64 0), .s (.int .i64 0), .s (.string ⟨#[]⟩), .s (.string ⟨#[]⟩), .z] ∧ tK C.P 177 = .other ∧ tFld C.P 177 0 = some (0, 9) ∧ fldPlace C.P 177 0 = some (0, 1) ∧ tFld C.P 177 1 = some (1, 4) ∧ fldPlace C.P 177 1 = some (1, 1) ∧ tFld C.P 177 2 = some (2, 173) ∧ fldPlace C.P 177 2 = some (2, 1) ∧ tFld C.P 177 3 = some (3, 3) ∧ fldPlace C.P 177 3 = some (3, 1) ∧ tFld C.P 177 4 = some (4, 175) ∧ fldPlace C.P 177 4 = some (4, 5) ∧ bldOk C.P 177 = true := ⟨by kernel_rfl, by kernel_rfl, by kernel_rfl, by kernel_rfl, by kernel_rfl, by kernel_rfl, by kernel_rfl, by kernel_rfl, by kernel_rfl, by kernel_rfl, by kernel_rfl, by kernel_rfl, by kernel_rfl, by kernel_rfl, by kernel_rfl, by kernel_rfl⟩
theorem ty179 : tSz C.P 179 = some 2 ∧ tBytes C.P 179 = some 24 ∧ tAgg C.P 179 = some true ∧ tZ C.P 179 = some [.s (.string ⟨#[]⟩), .s (.int .i64 0)] ∧ tK C.P 179 = .other ∧ tFld C.P 179 0 = some (0, 9) ∧ fldPlace C.P 179 0 = some (0, 1) ∧ tFld C.P 179 1 = some (1, 3) ∧ fldPlace C.P 179 1 = some (1, 1) ∧ bldOk C.P 179 = true := ⟨by kernel_rfl, by kernel_rfl, by kernel_rfl, by kernel_rfl, by kernel_rfl, by kernel_rfl, by kernel_rfl, by kernel_rfl, by kernel_rfl, by kernel_rfl⟩
theorem ty198 : tSz C.P 198 = some 14 ∧ tBytes C.P 198 = some 224 ∧ tAgg C.P 198 = some true ∧ tZ C.P 198 = some [.s (.string ⟨#[]⟩), .s (.string ⟨#[]⟩), .s (.string ⟨#[]⟩), .s (.string ⟨#[]⟩), .s (.string ⟨#[]⟩), .s (.string ⟨#[]⟩), .s (.string ⟨#[]⟩), .s (.string ⟨#[]⟩), .s (.string ⟨#[]⟩), .s (.string ⟨#[]⟩), .s (.string ⟨#[]⟩), .s (.string ⟨#[]⟩), .s (.string ⟨#[]⟩), .s (.string ⟨#[]⟩)] ∧ tK C.P 198 = .arr 14 9 ∧ tArr C.P 198 = some (14, 9) := ⟨by kernel_rfl, by kernel_rfl, by kernel_rfl, by kernel_rfl, by kernel_rfl, by kernel_rfl⟩
theorem ty202 : tSz C.P 202 = some 1 ∧ tBytes C.P 202 = some 8 ∧ tAgg C.P 202 = some false ∧ tZ C.P 202 = some [.s .nilFunc] ∧ tK C.P 202 = .func := ⟨by kernel_rfl, by kernel_rfl, by kernel_rfl, by kernel_rfl, by kernel_rfl⟩
theorem ty204 : tSz C.P 204 = some 1 ∧ tBytes C.P 204 = some 8 ∧ tAgg C.P 204 = some false ∧ tZ C.P 204 = some [.s (.int .u64 0)] ∧ tK C.P 204 = .int .u64 := ⟨by kernel_rfl, by kernel_rfl, by kernel_rfl, by kernel_rfl, by kernel_rfl⟩
theorem ty231 : tSz C.P 231 = some 2 ∧ tBytes C.P 231 = some 32 ∧ tAgg C.P 231 = some true ∧ tZ C.P 231 = some [.s (.string ⟨#[]⟩), .s (.string ⟨#[]⟩)] ∧ tK C.P 231 = .other ∧ tFld C.P 231 0 = some (0, 9) ∧ fldPlace C.P 231 0 = some (0, 1) ∧ tFld C.P 231 1 = some (1, 9) ∧ fldPlace C.P 231 1 = some (1, 1) ∧ bldOk C.P 231 = true := ⟨by kernel_rfl, by kernel_rfl, by kernel_rfl, by kernel_rfl, by kernel_rfl, by kernel_rfl, by kernel_rfl, by kernel_rfl, by kernel_rfl, by kernel_rfl⟩
theorem ty239 : tSz C.P 239 = some 1 ∧ tBytes C.P 239 = some 4 ∧ tAgg C.P 239 = some false ∧ tZ C.P 239 = some [.s (.int .u32 0)] ∧ tK C.P 239 = .int .u32 := ⟨by kernel_rfl, by kernel_rfl, by kernel_rfl, by kernel_rfl, by kernel_rfl⟩
theorem ty242 : tSz C.P 242 = some 1 ∧ tBytes C.P 242 = some 8 ∧ tAgg C.P 242 = some false ∧ tZ C.P 242 = some [.s (.int .u64 0)] ∧ tK C.P 242 = .int .u64 := ⟨by kernel_rfl, by kernel_rfl, by kernel_rfl, by kernel_rfl, by kernel_rfl⟩
theorem ty260 : tSz C.P 260 = some 1 ∧ tBytes C.P 260 = some 24 ∧ tAgg C.P 260 = some false ∧ tZ C.P 260 = some [.z] ∧ tK C.P 260 = .slice 23 ∧ tElem C.P 260 = some 23 := ⟨by kernel_rfl, by kernel_rfl, by kernel_rfl, by kernel_rfl, by kernel_rfl, by kernel_rfl⟩
theorem res3 : Tryz.f3.results.toList = [.tmp 4] := by kernel_rfl
theorem res4 : Tryz.f4.results.toList = [.tmp 4] := by kernel_rfl
theorem res6 : Tryz.f6.results.toList = [.tmp 4] := by kernel_rfl
theorem res7 : Tryz.f7.results.toList = [.tmp 4] := by kernel_rfl
theorem res8 : Tryz.f8.results.toList = [.cell 2 30] := by kernel_rfl
theorem res9 : Tryz.f9.results.toList = [.tmp 4] := by kernel_rfl
theorem res10 : Tryz.f10.results.toList = [.tmp 4] := by kernel_rfl
theorem res11 : Tryz.f11.results.toList = [.tmp 4] := by kernel_rfl
theorem res12 : Tryz.f12.results.toList = [.tmp 4] := by kernel_rfl
theorem res13 : Tryz.f13.results.toList = [.tmp 4] := by kernel_rfl
theorem res14 : Tryz.f14.results.toList = [.tmp 4] := by kernel_rfl
theorem res15 : Tryz.f15.results.toList = [.cell 4 38] := by kernel_rfl
theorem res16 : Tryz.f16.results.toList = [.cell 4 38] := by kernel_rfl
theorem res17 : Tryz.f17.results.toList = [.tmp 4] := by kernel_rfl
theorem res18 : Tryz.f18.results.toList = [.tmp 4] := by kernel_rfl
theorem res19 : Tryz.f19.results.toList = [.tmp 4] := by kernel_rfl
theorem res23 : Tryz.f23.results.toList = [.tmp 4] := by kernel_rfl
theorem res24 : Tryz.f24.results.toList = [.tmp 4] := by kernel_rfl
theorem res25 : Tryz.f25.results.toList = [.tmp 4] := by kernel_rfl
theorem res26 : Tryz.f26.results.toList = [.tmp 2] := by kernel_rfl
theorem res27 : Tryz.f27.results.toList = [.tmp 2] := by kernel_rfl
theorem res28 : Tryz.f28.results.toList = [.cell 8 38] := by kernel_rfl
theorem res29 : Tryz.f29.results.toList = [] := by kernel_rfl
theorem res30 : Tryz.f30.results.toList = [] := by kernel_rfl
theorem res31 : Tryz.f31.results.toList = [.tmp 4] := by kernel_rfl
theorem res32 : Tryz.f32.results.toList = [.tmp 4] := by kernel_rfl
theorem res33 : Tryz.f33.results.toList = [] := by kernel_rfl
theorem res34 : Tryz.f34.results.toList = [] := by kernel_rfl
theorem res40 : Tryz.f40.results.toList = [.tmp 4] := by kernel_rfl
theorem res41 : Tryz.f41.results.toList = [.tmp 2] := by kernel_rfl
theorem res42 : Tryz.f42.results.toList = [] := by kernel_rfl
theorem res43 : Tryz.f43.results.toList = [.cell 8 74] := by kernel_rfl
theorem res44 : Tryz.f44.results.toList = [.cell 2 72] := by kernel_rfl
theorem res45 : Tryz.f45.results.toList = [.tmp 2] := by kernel_rfl
theorem res46 : Tryz.f46.results.toList = [.tmp 6] := by kernel_rfl
theorem res47 : Tryz.f47.results.toList = [] := by kernel_rfl
theorem res48 : Tryz.f48.results.toList = [] := by kernel_rfl
theorem res49 : Tryz.f49.results.toList = [.cell 8 74] := by kernel_rfl
theorem res50 : Tryz.f50.results.toList = [.tmp 4] := by kernel_rfl
theorem res51 : Tryz.f51.results.toList = [.tmp 2] := by kernel_rfl
theorem res52 : Tryz.f52.results.toList = [.tmp 4] := by kernel_rfl
theorem res55 : Tryz.f55.results.toList = [.tmp 4] := by kernel_rfl
theorem res56 : Tryz.f56.results.toList = [.tmp 2] := by kernel_rfl
theorem res57 : Tryz.f57.results.toList = [.tmp 2] := by kernel_rfl
theorem res58 : Tryz.f58.results.toList = [.tmp 4] := by kernel_rfl
theorem res59 : Tryz.f59.results.toList = [.cell 6 74] := by kernel_rfl
theorem res60 : Tryz.f60.results.toList = [.tmp 8] := by kernel_rfl
theorem res61 : Tryz.f61.results.toList = [] := by kernel_rfl
theorem res62 : Tryz.f62.results.toList = [.tmp 2] := by kernel_rfl
theorem res63 : Tryz.f63.results.toList = [.tmp 2] := by kernel_rfl
theorem res64 : Tryz.f64.results.toList = [.tmp 8] := by kernel_rfl
theorem res65 : Tryz.f65.results.toList = [.tmp 4] := by kernel_rfl
theorem res66 : Tryz.f66.results.toList = [.tmp 2] := by kernel_rfl
theorem res67 : Tryz.f67.results.toList = [.tmp 2] := by kernel_rfl
theorem res68 : Tryz.f68.results.toList = [.tmp 4] := by kernel_rfl
theorem res69 : Tryz.f69.results.toList = [.tmp 3] := by kernel_rfl
theorem res70 : Tryz.f70.results.toList = [.tmp 4] := by kernel_rfl
theorem res71 : Tryz.f71.results.toList = [.tmp 2] := by kernel_rfl
theorem res72 : Tryz.f72.results.toList = [.cell 4 74] := by kernel_rfl
theorem res73 : Tryz.f73.results.toList = [] := by kernel_rfl
theorem res74 : Tryz.f74.results.toList = [.tmp 4] := by kernel_rfl
theorem res79 : Tryz.f79.results.toList = [.tmp 2] := by kernel_rfl
theorem res80 : Tryz.f80.results.toList = [.tmp 2] := by kernel_rfl
theorem res81 : Tryz.f81.results.toList = [.tmp 2] := by kernel_rfl
theorem res82 : Tryz.f82.results.toList = [.tmp 2] := by kernel_rfl
theorem res83 : Tryz.f83.results.toList = [.tmp 6] := by kernel_rfl
theorem res84 : Tryz.f84.results.toList = [] := by kernel_rfl
theorem res85 : Tryz.f85.results.toList = [.cell 2 74] := by kernel_rfl
theorem res86 : Tryz.f86.results.toList = [.cell 2 74] := by kernel_rfl
theorem res87 : Tryz.f87.results.toList = [] := by kernel_rfl
theorem res88 : Tryz.f88.results.toList = [] := by kernel_rfl
theorem res89 : Tryz.f89.results.toList = [] := by kernel_rfl
theorem res90 : Tryz.f90.results.toList = [] := by kernel_rfl
theorem res91 : Tryz.f91.results.toList = [.cell 2 90] := by kernel_rfl
theorem res92 : Tryz.f92.results.toList = [.tmp 2] := by kernel_rfl
theorem res93 : Tryz.f93.results.toList = [.tmp 2] := by kernel_rfl
theorem res94 : Tryz.f94.results.toList = [.tmp 2] := by kernel_rfl
theorem res95 : Tryz.f95.results.toList = [.tmp 4] := by kernel_rfl
theorem res96 : Tryz.f96.results.toList = [.tmp 2] := by kernel_rfl
theorem res97 : Tryz.f97.results.toList = [.tmp 4] := by kernel_rfl
theorem res98 : Tryz.f98.results.toList = [.tmp 4] := by kernel_rfl
theorem res99 : Tryz.f99.results.toList = [] := by kernel_rfl
theorem res100 : Tryz.f100.results.toList = [.cell 2 74] := by kernel_rfl
theorem res101 : Tryz.f101.results.toList = [.cell 2 74] := by kernel_rfl
theorem res102 : Tryz.f102.results.toList = [.tmp 4] := by kernel_rfl
theorem res103 : Tryz.f103.results.toList = [] := by kernel_rfl
theorem res104 : Tryz.f104.results.toList = [] := by kernel_rfl
theorem res105 : Tryz.f105.results.toList = [.tmp 4] := by kernel_rfl
theorem res106 : Tryz.f106.results.toList = [.tmp 4] := by kernel_rfl
theorem res107 : Tryz.f107.results.toList = [.cell 2 74] := by kernel_rfl
theorem res108 : Tryz.f108.results.toList = [.tmp 4] := by kernel_rfl
theorem res118 : Tryz.f118.results.toList = [.tmp 0] := by kernel_rfl
theorem res119 : Tryz.f119.results.toList = [.tmp 2] := by kernel_rfl
theorem res120 : Tryz.f120.results.toList = [.tmp 4] := by kernel_rfl
theorem res121 : Tryz.f121.results.toList = [.cell 4 74, .tmp 5] := by kernel_rfl
theorem res122 : Tryz.f122.results.toList = [.cell 2 74] := by kernel_rfl
theorem res123 : Tryz.f123.results.toList = [.tmp 4] := by kernel_rfl
theorem res124 : Tryz.f124.results.toList = [.tmp 2] := by kernel_rfl
theorem res125 : Tryz.f125.results.toList = [.tmp 2, .tmp 3] := by kernel_rfl
theorem res126 : Tryz.f126.results.toList = [.cell 4 74, .tmp 5] := by kernel_rfl
theorem res127 : Tryz.f127.results.toList = [.tmp 2] := by kernel_rfl
theorem res128 : Tryz.f128.results.toList = [.tmp 4, .tmp 5] := by kernel_rfl
theorem res146 : Tryz.f146.results.toList = [.tmp 2] := by kernel_rfl
theorem res147 : Tryz.f147.results.toList = [.tmp 2, .tmp 3] := by kernel_rfl
theorem res148 : Tryz.f148.results.toList = [.cell 6 74, .tmp 7] := by kernel_rfl
theorem res149 : Tryz.f149.results.toList = [.cell 4 74, .tmp 5] := by kernel_rfl
theorem res150 : Tryz.f150.results.toList = [.tmp 4] := by kernel_rfl
theorem res151 : Tryz.f151.results.toList = [.tmp 2] := by kernel_rfl
theorem res152 : Tryz.f152.results.toList = [.tmp 2] := by kernel_rfl
theorem res153 : Tryz.f153.results.toList = [.cell 6 74, .tmp 7] := by kernel_rfl
theorem res154 : Tryz.f154.results.toList = [] := by kernel_rfl
theorem res156 : Tryz.f156.results.toList = [.tmp 4, .tmp 5] := by kernel_rfl
theorem res181 : Tryz.f181.results.toList = [.tmp 4] := by kernel_rfl
set_option linter.all false in
noncomputable def WA := And.intro (And.intro (And.intro (And.intro WB1 WB2) (And.intro (And.intro WB3 WB5) WB4)) (And.intro WB6 (And.intro WB8 (And.intro WB9 WB11)))) (And.intro (And.intro (And.intro (And.intro (And.intro (And.intro (And.intro (cg0) (And.intro (ty1) (ty2))) (And.intro (And.intro (ty3) (ty4)) (And.intro (ty5) (ty6)))) (And.intro (And.intro (ty7) (And.intro (ty8) (ty9))) (And.intro (And.intro (ty10) (ty11)) (And.intro (ty12) (ty13))))) (And.intro (And.intro (And.intro (ty14) (And.intro (ty15) (ty16))) (And.intro (And.intro (ty17) (ty18)) (And.intro (ty19) (ty20)))) (And.intro (And.intro (ty21) (And.intro (ty22) (ty23))) (And.intro (And.intro (ty24) (ty25)) (And.intro (ty26) (ty27)))))) (And.intro (And.intro (And.intro (And.intro (ty28) (And.intro (ty29) (ty30))) (And.intro (And.intro (ty31) (ty32)) (And.intro (ty33) (ty34)))) (And.intro (And.intro (ty35) (And.intro (ty36) (ty37))) (And.intro (And.intro (ty38) (ty39)) (And.intro (ty40) (ty41))))) (And.intro (And.intro (And.intro (ty42) (And.intro (ty44) (ty45))) (And.intro (And.intro (ty46) (ty47)) (And.intro (ty48) (ty49)))) (And.intro (And.intro (And.intro (ty50) (ty51)) (And.intro (ty52) (ty55))) (And.intro (And.intro (ty56) (ty57)) (And.intro (ty58) (ty60))))))) (And.intro (And.intro (And.intro (And.intro (And.intro (ty61) (And.intro (ty63) (ty64))) (And.intro (And.intro (ty65) (ty66)) (And.intro (ty67) (ty68)))) (And.intro (And.intro (ty69) (And.intro (ty70) (ty71))) (And.intro (And.intro (ty72) (ty74)) (And.intro (ty78) (ty80))))) (And.intro (And.intro (And.intro (ty81) (And.intro (ty82) (ty90))) (And.intro (And.intro (ty96) (ty97)) (And.intro (ty98) (ty99)))) (And.intro (And.intro (And.intro (ty100) (ty101)) (And.intro (ty102) (ty103))) (And.intro (And.intro (ty104) (ty105)) (And.intro (ty106) (ty108)))))) (And.intro (And.intro (And.intro (And.intro (ty109) (And.intro (ty110) (ty111))) (And.intro (And.intro (ty112) (ty113)) (And.intro (ty114) (ty115)))) (And.intro (And.intro (ty116) (And.intro (ty117) (ty118))) (And.intro (And.intro (ty119) (ty120)) (And.intro (ty122) (ty128))))) (And.intro (And.intro (And.intro (ty129) (And.intro (ty130) (ty132))) (And.intro (And.intro (ty134) (ty150)) (And.intro (ty154) (ty157)))) (And.intro (And.intro (And.intro (ty173) (ty175)) (And.intro (ty177) (ty179))) (And.intro (And.intro (ty198) (ty202)) (And.intro (ty204) (ty231)))))))) (And.intro (And.intro (And.intro (And.intro (And.intro (And.intro (ty239) (And.intro (ty242) (ty260))) (And.intro (And.intro (res3) (res4)) (And.intro (res6) (res7)))) (And.intro (And.intro (res8) (And.intro (res9) (res10))) (And.intro (And.intro (res11) (res12)) (And.intro (res13) (res14))))) (And.intro (And.intro (And.intro (res15) (And.intro (res16) (res17))) (And.intro (And.intro (res18) (res19)) (And.intro (res23) (res24)))) (And.intro (And.intro (And.intro (res25) (res26)) (And.intro (res27) (res28))) (And.intro (And.intro (res29) (res30)) (And.intro (res31) (res32)))))) (And.intro (And.intro (And.intro (And.intro (res33) (And.intro (res34) (res40))) (And.intro (And.intro (res41) (res42)) (And.intro (res43) (res44)))) (And.intro (And.intro (res45) (And.intro (res46) (res47))) (And.intro (And.intro (res48) (res49)) (And.intro (res50) (res51))))) (And.intro (And.intro (And.intro (res52) (And.intro (res55) (res56))) (And.intro (And.intro (res57) (res58)) (And.intro (res59) (res60)))) (And.intro (And.intro (And.intro (res61) (res62)) (And.intro (res63) (res64))) (And.intro (And.intro (res65) (res66)) (And.intro (res67) (res68))))))) (And.intro (And.intro (And.intro (And.intro (And.intro (res69) (And.intro (res70) (res71))) (And.intro (And.intro (res72) (res73)) (And.intro (res74) (res79)))) (And.intro (And.intro (res80) (And.intro (res81) (res82))) (And.intro (And.intro (res83) (res84)) (And.intro (res85) (res86))))) (And.intro (And.intro (And.intro (res87) (And.intro (res88) (res89))) (And.intro (And.intro (res90) (res91)) (And.intro (res92) (res93)))) (And.intro (And.intro (And.intro (res94) (res95)) (And.intro (res96) (res97))) (And.intro (And.intro (res98) (res99)) (And.intro (res100) (res101)))))) (And.intro (And.intro (And.intro (And.intro (res102) (And.intro (res103) (res104))) (And.intro (And.intro (res105) (res106)) (And.intro (res107) (res108)))) (And.intro (And.intro (res118) (And.intro (res119) (res120))) (And.intro (And.intro (res121) (res122)) (And.intro (res123) (res124))))) (And.intro (And.intro (And.intro (res125) (And.intro (res126) (res127))) (And.intro (And.intro (res128) (res146)) (And.intro (res147) (res148)))) (And.intro (And.intro (And.intro (res149) (res150)) (And.intro (res151) (res152))) (And.intro (And.intro (res153) (res154)) (And.intro (res156) (res181)))))))))
theorem bcT (x y : Prop) : bcase true x y = x := bcase_true x y
theorem bcF (x y : Prop) : bcase false x y = y := bcase_false x y
theorem wrI {a : Int} (h1 : -9223372036854775808 ≤ a) (h2 : a ≤ 9223372036854775807) : IntKind.i64.wrap a = a := wrap_i64 h1 h2
end Go.Proofs.YtlhkfjannhhcbaaGreatDoor
/- part S0 -/
namespace Go.Proofs.YtlhkfjannhhcbaaGreatDoor
open Go Go.W

structure Ins where
  op : Int
  a : Int
structure IFun where
  mod : ByteArray
  name : ByteArray
  args : List Int
  typ : Int
  slots : Int
  code : List Ins
structure Img where
  funs : List IFun
  mains : List Int

def iV (n : Int) : List V := [.s (.int .i64 n)]
def insV (x : Ins) : List V := [.s (.int .i64 x.op), .s (.int .i64 x.a)]
def fnV (f : IFun) : List V := [.s (.string f.mod), .s (.string f.name), .f 1 (f.args.map iV), .s (.int .i64 f.typ), .s (.int .i64 f.slots), .f 2 (f.code.map insV)]
def imgV (m : Img) : List V := [.f 6 (m.funs.map fnV), .f 1 (m.mains.map iV)]

def primT : Nat → List Int × Int
  | 0 => ([1, 1], 1) | 1 => ([1, 1], 1) | 2 => ([1, 1], 1) | 3 => ([1, 1], 1) | 4 => ([1, 1], 1)
  | 5 => ([1, 1], 2) | 6 => ([1, 1], 2) | 7 => ([1, 1], 2)
  | 8 => ([2], 2) | 9 => ([3, 1], 1) | 10 => ([3], 1) | 11 => ([3, 1, 1], 3) | 12 => ([3, 3], 3) | _ => ([1], 1)
def sV (b : ByteArray) : List V := [.s (.string b)]
def kept : List ByteArray := [⟨#[117, 115, 101]⟩, ⟨#[102, 117, 110]⟩, ⟨#[112, 117, 98]⟩, ⟨#[109, 97, 105, 110]⟩, ⟨#[105, 110, 116]⟩, ⟨#[98, 111, 111, 108]⟩, ⟨#[114, 111, 119]⟩, ⟨#[105, 102]⟩, ⟨#[108, 101, 116]⟩, ⟨#[116, 114, 117, 101]⟩, ⟨#[102, 97, 108, 115, 101]⟩, ⟨#[97, 110, 100]⟩, ⟨#[111, 114]⟩, ⟨#[110, 111, 116]⟩, ⟨#[97, 116]⟩, ⟨#[108, 101, 110]⟩, ⟨#[112, 117, 116]⟩, ⟨#[106, 111, 105, 110]⟩, ⟨#[112, 114, 105, 110, 116]⟩]
def mainS : ByteArray := ⟨#[109, 97, 105, 110]⟩
def low (c : UInt8) : Bool := decide (97 ≤ (c.toNat : Int)) && decide ((c.toNat : Int) ≤ 122)
def nameB (s : ByteArray) : Bool := s.data.toList.all low && (decide (1 ≤ s.size) && decide (s.size ≤ 8)) && !kept.any (fun w => decide (w = s))
def rangeB (n lo hi : Int) : Bool := decide (lo ≤ n) && decide (n ≤ hi)
def insB (x : Ins) : Bool :=
  if x.op = 1 then rangeB x.a (-99999999999999999) 99999999999999999
  else if x.op = 2 then rangeB x.a 0 1
  else if x.op = 9 then decide (x.a = 0)
  else rangeB x.op 1 10 && rangeB x.a 0 1000
def typB (t : Int) : Bool := rangeB t 1 3
def headB (name : ByteArray) (args : List Int) (typ slots : Int) : Bool := (nameB name || decide (name = mainS)) && (decide (args.length ≤ 4) && args.all typB) && typB typ && rangeB slots 0 1000
def funB (f : IFun) : Bool := nameB f.mod && headB f.name f.args f.typ f.slots && decide (f.code.length ≤ 460) && f.code.all insB
def sizeN : List IFun → Nat
  | [] => 0
  | f :: r => f.code.length + sizeN r
def imgB (m : Img) : Bool := m.funs.all funB && (decide (m.funs.length ≤ 72) && decide (m.mains.length ≤ 8) && decide (sizeN m.funs ≤ 3680)) && m.mains.all fun n => rangeB n 0 ((m.funs.length : Int) - 1)
end Go.Proofs.YtlhkfjannhhcbaaGreatDoor
/- part M0 -/
namespace Go.Proofs.YtlhkfjannhhcbaaGreatDoor
open Go Go.W

structure Val where
  k : Int
  n : Int
  row : List Int
  deriving DecidableEq
def rowV (k : Int) (r : List Int) : V := if k = 3 then .f 1 (r.map iV) else .z
def valV (v : Val) : List V := [.s (.int .i64 v.k), .s (.int .i64 v.n), rowV v.k v.row]
def zeroE : Val := ⟨0, 0, []⟩
def intE (n : Int) : Val := ⟨1, n, []⟩
def boolE (b : Bool) : Val := ⟨2, if b then 1 else 0, []⟩
def rowE (l : List Int) : Val := ⟨3, 0, l⟩
abbrev wr (x : Int) : Int := IntKind.i64.wrap x
def primE (p : Nat) (vs : List Val) : Val × Int :=
  let a := vs[0]?.getD zeroE
  let b := vs[1]?.getD zeroE
  let c := vs[2]?.getD zeroE
  match p with
  | 0 => (intE (wr (a.n + b.n)), 0)
  | 1 => (intE (wr (a.n - b.n)), 0)
  | 2 => (intE (wr (a.n * b.n)), 0)
  | 3 => if b.n = 0 then (zeroE, 1) else (intE (wr (a.n.tdiv b.n)), 0)
  | 4 => if b.n = 0 then (zeroE, 1) else (intE (a.n.tmod b.n), 0)
  | 5 => (boolE (decide (a.n < b.n)), 0)
  | 6 => (boolE (decide (a.n ≤ b.n)), 0)
  | 7 => (boolE (decide (a.n = b.n)), 0)
  | 8 => (boolE (decide (a.n = 0)), 0)
  | 9 => if 0 ≤ b.n ∧ b.n < a.row.length then (intE (a.row[b.n.toNat]?.getD 0), 0) else (zeroE, 2)
  | 10 => (intE a.row.length, 0)
  | 11 => if 0 ≤ b.n ∧ b.n < a.row.length then (rowE (a.row.set b.n.toNat c.n), 0) else (zeroE, 2)
  | 12 => if 16 < a.row.length + b.row.length then (zeroE, 3) else (rowE (a.row ++ b.row), 0)
  | _ => (intE a.n, 0)

abbrev Stop := Int × Int
structure Mc where
  steps : Nat
  out : List Int
  high : List Int
structure Fr where
  pc : Nat
  stack : List Val
  slots : List Val
abbrev Did (α : Type) := Mc × Except Stop α
def wrongM {α : Type} (mc : Mc) : Did α := (mc, .error (3, 0))
def optM (mc : Mc) (fr : Fr) : Option (List Val) → Did Fr
  | none => wrongM mc
  | some st => (mc, .ok ⟨fr.pc, st, fr.slots⟩)
def pushM (st : List Val) (v : Val) : Option (List Val) := if 100 ≤ st.length then none else some (st ++ [v])
def popsM (st : List Val) (ks : List Int) : Option (List Val × List Val) :=
  if ks.length ≤ st.length ∧ (st.drop (st.length - ks.length)).map (·.k) = ks then some (st.drop (st.length - ks.length), st.take (st.length - ks.length)) else none
def loadM (fr : Fr) (a : Nat) : Option (List Val) := match fr.slots[a]? with
  | none => none
  | some v => if v.k = 0 then none else pushM fr.stack v
def keepM (fr : Fr) (a : Nat) : Option Fr :=
  if fr.stack = [] then none
  else if a < fr.slots.length then some ⟨fr.pc, fr.stack.dropLast, fr.slots.set a (fr.stack.getLast?.getD zeroE)⟩ else none
def unlessM (fr : Fr) (a : Nat) : Option Fr := match popsM fr.stack [2] with
  | none => none
  | some (vs, st) => some ⟨if (vs[0]?.getD zeroE).n = 0 then a else fr.pc, st, fr.slots⟩
def rowM (fr : Fr) (a : Nat) : Option (List Val) :=
  if 16 < a then none
  else match popsM fr.stack (List.replicate a 1) with
    | none => none
    | some (vs, st) => pushM st (rowE (vs.map (·.n)))
def primM (a : Int) (fr : Fr) (mc : Mc) : Did Fr :=
  if 1 ≤ a ∧ a ≤ 14 then
    match popsM fr.stack (primT (a - 1).toNat).1 with
    | none => wrongM mc
    | some (vs, st) =>
      if 0 < (primE (a - 1).toNat vs).2 then (mc, .error (2, (primE (a - 1).toNat vs).2))
      else optM ⟨mc.steps, if a = 14 then mc.out ++ [(primE (a - 1).toNat vs).1.n] else mc.out, mc.high⟩ fr (pushM st (primE (a - 1).toNat vs).1)
  else wrongM mc
def callM (run : IFun → List Val → Mc → Did Val) (fs : List IFun) (d : Nat) (a : Nat) (fr : Fr) (mc : Mc) : Did Fr :=
  match fs[a]? with
  | none => wrongM mc
  | some g => match popsM fr.stack g.args with
    | none => wrongM mc
    | some (vs, st) =>
      if d = 30 then (mc, .error (2, 4))
      else match run g vs mc with
        | (mc', .error e) => (mc', .error e)
        | (mc', .ok v) => optM mc' fr (pushM st v)
def toM (mc : Mc) : Option Fr → Did Fr
  | none => wrongM mc
  | some fr => (mc, .ok fr)
def doM (run : IFun → List Val → Mc → Did Val) (fs : List IFun) (d : Nat) (x : Ins) (fr : Fr) (mc : Mc) : Did Fr :=
  if x.op = 1 then optM mc fr (pushM fr.stack (intE x.a))
  else if x.op = 2 then optM mc fr (pushM fr.stack (boolE (decide (x.a = 1))))
  else if x.op = 3 then optM mc fr (loadM fr x.a.toNat)
  else if x.op = 4 then toM mc (keepM fr x.a.toNat)
  else if x.op = 5 then primM x.a fr mc
  else if x.op = 6 then (mc, .ok ⟨x.a.toNat, fr.stack, fr.slots⟩)
  else if x.op = 7 then toM mc (unlessM fr x.a.toNat)
  else if x.op = 8 then callM run fs d x.a.toNat fr mc
  else if x.op = 10 then optM mc fr (rowM fr x.a.toNat)
  else (mc, .ok fr)
def backM (typ : Int) (st : List Val) (mc : Mc) : Did Val :=
  match popsM st [typ] with
  | none => wrongM mc
  | some (vs, r) => if r = [] then (mc, .ok (vs[0]?.getD zeroE)) else wrongM mc
def beginM (g : IFun) (args : List Val) : Fr := ⟨0, [], args ++ List.replicate (g.slots - args.length).toNat zeroE⟩
def enterM (loop : IFun → Fr → Mc → Did Val) (g : IFun) (args : List Val) (mc : Mc) : Did Val :=
  if g.slots < args.length then wrongM mc else loop g (beginM g args) mc
def loopM (fs : List IFun) (fuel : Nat) : Nat → Nat → IFun → Fr → Mc → Did Val
  | 0, _, f, fr, mc => match f.code[fr.pc]? with
    | none => wrongM mc
    | some _ => (mc, .error (0, 0))
  | n + 1, d, f, fr, mc => match f.code[fr.pc]? with
    | none => wrongM mc
    | some x =>
      if mc.steps = fuel then (mc, .error (0, 0))
      else if x.op = 9 then backM f.typ fr.stack ⟨mc.steps + 1, mc.out, mc.high ++ [(fr.stack.length : Int)]⟩
      else match doM (enterM (loopM fs fuel n (d + 1))) fs d x ⟨fr.pc + 1, fr.stack, fr.slots⟩ ⟨mc.steps + 1, mc.out, mc.high ++ [(fr.stack.length : Int)]⟩ with
        | (mc', .error e) => (mc', .error e)
        | (mc', .ok fr') => loopM fs fuel n d f fr' mc'
def mainsM (fs : List IFun) (fuel : Nat) : List Int → Mc → Did Unit
  | [], mc => (mc, .ok ())
  | a :: r, mc => match fs[a.toNat]? with
    | none => wrongM mc
    | some g =>
      if g.args ≠ [] then wrongM mc
      else match enterM (loopM fs fuel fuel 0) g [] mc with
        | (mc', .error e) => (mc', .error e)
        | (mc', .ok _) => mainsM fs fuel r mc'
def fuelB (fuel : Int) : Bool := rangeB fuel 0 400000
def machM (m : Img) (fuel : Int) : Mc × Stop :=
  if imgB m = true ∧ fuelB fuel = true then match mainsM m.funs fuel.toNat m.mains ⟨0, [], []⟩ with
    | (mc, .error e) => (mc, e)
    | (mc, .ok _) => (mc, (1, 0))
  else (⟨0, [], []⟩, (3, 0))

def VOk (v : Val) : Prop := v.row.length ≤ 16 ∧ (v.k ≠ 3 → v.row = [])
def FrOk (fr : Fr) : Prop := fr.stack.length ≤ 100 ∧ (∀ v ∈ fr.stack, VOk v) ∧ (∀ v ∈ fr.slots, VOk v)
def McOk (fuel : Nat) (mc : Mc) : Prop := mc.steps ≤ fuel ∧ mc.out.length ≤ mc.steps ∧ mc.high.length = mc.steps
theorem VOk_zero : VOk zeroE := ⟨by simp [zeroE], fun _ => rfl⟩
theorem VOk_int (n : Int) : VOk (intE n) := ⟨by simp [intE], fun _ => rfl⟩
theorem VOk_bool (b : Bool) : VOk (boolE b) := ⟨by simp [boolE], fun _ => rfl⟩
theorem VOk_row {l : List Int} (h : l.length ≤ 16) : VOk (rowE l) := ⟨h, fun q => absurd rfl q⟩
theorem VOk_getD {vs : List Val} (h : ∀ v ∈ vs, VOk v) (i : Nat) : VOk (vs[i]?.getD zeroE) := by
  cases e : vs[i]? with
  | none => exact VOk_zero
  | some v => exact h v (List.mem_of_getElem? e)
theorem primE_ok {p : Nat} {vs : List Val} (h : ∀ v ∈ vs, VOk v) : VOk (primE p vs).1 := by
  have h0 := VOk_getD h 0
  unfold primE
  dsimp only
  split
  · exact VOk_int _
  · exact VOk_int _
  · exact VOk_int _
  · split
    · exact VOk_zero
    · exact VOk_int _
  · split
    · exact VOk_zero
    · exact VOk_int _
  · exact VOk_bool _
  · exact VOk_bool _
  · exact VOk_bool _
  · exact VOk_bool _
  · split
    · exact VOk_int _
    · exact VOk_zero
  · exact VOk_int _
  · split
    · exact VOk_row (by rw [List.length_set]; exact h0.1)
    · exact VOk_zero
  · split
    · exact VOk_zero
    · exact VOk_row (by rw [List.length_append]; omega)
  · exact VOk_int _
theorem pushM_ok {st st' : List Val} {v : Val} (h : pushM st v = some st') : st' = st ++ [v] ∧ st.length < 100 := by
  unfold pushM at h
  split at h
  · cases h
  · cases h; exact ⟨rfl, by omega⟩
theorem popsM_ok {st vs st' : List Val} {ks : List Int} (h : popsM st ks = some (vs, st')) : st = st' ++ vs ∧ vs.map (·.k) = ks ∧ st'.length + ks.length = st.length := by
  unfold popsM at h
  split at h
  · rename_i q
    cases h
    exact ⟨(List.take_append_drop _ _).symm, q.2, by rw [List.length_take]; omega⟩
  · cases h
def FrTo (fr fr' : Fr) : Prop := FrOk fr' ∧ fr'.slots.length = fr.slots.length
theorem optM_ok {fuel : Nat} {mc : Mc} {fr : Fr} {st : List Val} {v : Val} (hm : McOk fuel mc) (hs : ∀ v ∈ fr.slots, VOk v) (h1 : ∀ v ∈ st, VOk v) (hv : VOk v) : McOk fuel (optM mc fr (pushM st v)).1 ∧ (optM mc fr (pushM st v)).1 = mc ∧ ∀ fr', (optM mc fr (pushM st v)).2 = .ok fr' → FrTo fr fr' := by
  cases e : pushM st v with
  | none => exact ⟨hm, rfl, fun fr' q => by cases q⟩
  | some st' =>
    obtain ⟨rfl, h2⟩ := pushM_ok e
    refine ⟨hm, rfl, fun fr' q => ?_⟩
    cases q
    refine ⟨⟨by simp only [List.length_append, List.length_cons, List.length_nil]; omega, fun u hu => ?_, hs⟩, rfl⟩
    rcases List.mem_append.1 hu with q | q
    · exact h1 u q
    · rw [List.mem_singleton] at q; subst q; exact hv
def RunOk (fuel : Nat) (run : IFun → List Val → Mc → Did Val) : Prop := ∀ g vs mc, (∀ v ∈ vs, VOk v) → McOk fuel mc → McOk fuel (run g vs mc).1 ∧ mc.steps ≤ (run g vs mc).1.steps ∧ ∀ v, (run g vs mc).2 = .ok v → VOk v
theorem primM_ok {fuel : Nat} {a : Int} {fr : Fr} {mc : Mc} (hf : FrOk fr) (hm : McOk fuel mc) (hl : mc.out.length < mc.steps) : McOk fuel (primM a fr mc).1 ∧ mc.steps ≤ (primM a fr mc).1.steps ∧ ∀ fr', (primM a fr mc).2 = .ok fr' → FrTo fr fr' := by
  unfold primM
  split
  · split
    · exact ⟨hm, Nat.le_refl _, fun fr' q => by cases q⟩
    · rename_i vs st e
      obtain ⟨e1, e2, e3⟩ := popsM_ok e
      have hvs : ∀ v ∈ vs, VOk v := fun v hv => hf.2.1 v (by rw [e1]; exact List.mem_append_right _ hv)
      have hst : ∀ v ∈ st, VOk v := fun v hv => hf.2.1 v (by rw [e1]; exact List.mem_append_left _ hv)
      split
      · exact ⟨hm, Nat.le_refl _, fun fr' q => by cases q⟩
      · have hm' : McOk fuel ⟨mc.steps, if a = 14 then mc.out ++ [(primE (a - 1).toNat vs).1.n] else mc.out, mc.high⟩ := by
          refine ⟨hm.1, ?_, hm.2.2⟩
          dsimp only
          split
          · rw [List.length_append]; exact hl
          · exact hm.2.1
        obtain ⟨q1, q2, q3⟩ := optM_ok (fr := fr) hm' hf.2.2 hst (primE_ok (p := (a - 1).toNat) hvs)
        exact ⟨q1, by rw [q2]; exact Nat.le_refl _, q3⟩
  · exact ⟨hm, Nat.le_refl _, fun fr' q => by cases q⟩
theorem doM_ok {fuel : Nat} {run : IFun → List Val → Mc → Did Val} {fs : List IFun} {d : Nat} {x : Ins} {fr : Fr} {mc : Mc} (hr : RunOk fuel run) (hf : FrOk fr) (hm : McOk fuel mc) (hl : mc.out.length < mc.steps) :
    McOk fuel (doM run fs d x fr mc).1 ∧ mc.steps ≤ (doM run fs d x fr mc).1.steps ∧ ∀ fr', (doM run fs d x fr mc).2 = .ok fr' → FrTo fr fr' := by
  have opt : ∀ v, VOk v → McOk fuel (optM mc fr (pushM fr.stack v)).1 ∧ mc.steps ≤ (optM mc fr (pushM fr.stack v)).1.steps ∧ ∀ fr', (optM mc fr (pushM fr.stack v)).2 = .ok fr' → FrTo fr fr' := fun v hv => by
    obtain ⟨q1, q2, q3⟩ := optM_ok (fr := fr) hm hf.2.2 hf.2.1 hv
    exact ⟨q1, by rw [q2]; exact Nat.le_refl _, q3⟩
  have no : McOk fuel (wrongM mc : Did Fr).1 ∧ mc.steps ≤ (wrongM mc : Did Fr).1.steps ∧ ∀ fr', (wrongM mc : Did Fr).2 = .ok fr' → FrTo fr fr' := ⟨hm, Nat.le_refl _, fun fr' q => by cases q⟩
  unfold doM
  split
  · exact opt _ (VOk_int _)
  split
  · exact opt _ (VOk_bool _)
  split
  · unfold loadM
    split
    · exact no
    · rename_i v hv
      split
      · exact no
      · exact opt v (hf.2.2 v (List.mem_of_getElem? hv))
  split
  · unfold keepM
    split
    · exact no
    · rename_i hne
      split
      · refine ⟨hm, Nat.le_refl _, fun fr' q => ?_⟩
        cases q
        refine ⟨⟨by simp only [List.length_dropLast]; have := hf.1; omega, fun v hv => hf.2.1 v (List.dropLast_subset _ hv), fun v hv => ?_⟩, by simp only [List.length_set]⟩
        rcases List.mem_or_eq_of_mem_set hv with q | q
        · exact hf.2.2 v q
        · subst q
          cases e : fr.stack.getLast? with
          | none => exact VOk_zero
          | some v => exact hf.2.1 v (List.mem_of_getLast? e)
      · exact no
  split
  · exact primM_ok hf hm hl
  split
  · exact ⟨hm, Nat.le_refl _, fun fr' q => by cases q; exact ⟨hf, rfl⟩⟩
  split
  · unfold unlessM
    split
    · exact no
    · rename_i vs st e
      obtain ⟨e1, e2, e3⟩ := popsM_ok e
      refine ⟨hm, Nat.le_refl _, fun fr' q => ?_⟩
      cases q
      exact ⟨⟨by have := hf.1; dsimp only; omega, fun v hv => hf.2.1 v (by rw [e1]; exact List.mem_append_left _ hv), hf.2.2⟩, rfl⟩
  split
  · unfold callM
    split
    · exact no
    split
    · exact no
    · rename_i g hg _ vs st e
      obtain ⟨e1, e2, e3⟩ := popsM_ok e
      have hvs : ∀ v ∈ vs, VOk v := fun v hv => hf.2.1 v (by rw [e1]; exact List.mem_append_right _ hv)
      have hst : ∀ v ∈ st, VOk v := fun v hv => hf.2.1 v (by rw [e1]; exact List.mem_append_left _ hv)
      split
      · exact ⟨hm, Nat.le_refl _, fun fr' q => by cases q⟩
      · have := hr g vs mc hvs hm
        revert this
        rcases run g vs mc with ⟨mc', (e' | v)⟩
        · rintro ⟨q1, q2, q3⟩
          exact ⟨q1, q2, fun fr' q => by cases q⟩
        · rintro ⟨q1, q2, q3⟩
          obtain ⟨r1, r2, r3⟩ := optM_ok (fr := fr) q1 hf.2.2 hst (q3 v rfl)
          exact ⟨r1, by dsimp only at q2 ⊢; rw [r2]; exact q2, r3⟩
  split
  · unfold rowM
    split
    · exact no
    split
    · exact no
    · rename_i vs st e
      obtain ⟨e1, e2, e3⟩ := popsM_ok e
      have hst : ∀ v ∈ st, VOk v := fun v hv => hf.2.1 v (by rw [e1]; exact List.mem_append_left _ hv)
      have hl : vs.length = x.a.toNat := by have := congrArg List.length e2; simpa using this
      obtain ⟨q1, q2, q3⟩ := optM_ok (fr := fr) hm hf.2.2 hst (VOk_row (l := vs.map (·.n)) (by rw [List.length_map]; omega))
      exact ⟨q1, by rw [q2]; exact Nat.le_refl _, q3⟩
  · exact ⟨hm, Nat.le_refl _, fun fr' q => by cases q; exact ⟨hf, rfl⟩⟩
theorem enterM_ok {fuel : Nat} {loop : IFun → Fr → Mc → Did Val} (hl : ∀ g fr mc, FrOk fr → McOk fuel mc → McOk fuel (loop g fr mc).1 ∧ mc.steps ≤ (loop g fr mc).1.steps ∧ ∀ v, (loop g fr mc).2 = .ok v → VOk v) : RunOk fuel (enterM loop) := by
  intro g vs mc hv hm
  unfold enterM
  split
  · exact ⟨hm, Nat.le_refl _, fun v q => by cases q⟩
  · refine hl g _ mc ⟨by simp [beginM], fun v q => by simp [beginM] at q, fun v q => ?_⟩ hm
    rcases List.mem_append.1 q with q | q
    · exact hv v q
    · rw [List.eq_of_mem_replicate q]; exact VOk_zero
theorem loopM_ok (fs : List IFun) (fuel : Nat) : ∀ (n d : Nat) (f : IFun) (fr : Fr) (mc : Mc), FrOk fr → McOk fuel mc → McOk fuel (loopM fs fuel n d f fr mc).1 ∧ mc.steps ≤ (loopM fs fuel n d f fr mc).1.steps ∧ ∀ v, (loopM fs fuel n d f fr mc).2 = .ok v → VOk v
  | 0, d, f, fr, mc, hf, hm => by
    unfold loopM
    split
    · exact ⟨hm, Nat.le_refl _, fun v q => by cases q⟩
    · exact ⟨hm, Nat.le_refl _, fun v q => by cases q⟩
  | n + 1, d, f, fr, mc, hf, hm => by
    unfold loopM
    split
    · exact ⟨hm, Nat.le_refl _, fun v q => by cases q⟩
    · rename_i x hx
      split
      · exact ⟨hm, Nat.le_refl _, fun v q => by cases q⟩
      rename_i hne
      have hm1 : McOk fuel ⟨mc.steps + 1, mc.out, mc.high ++ [(fr.stack.length : Int)]⟩ := ⟨by have := hm.1; dsimp only; omega, by have := hm.2.1; dsimp only; omega, by have := hm.2.2; simp only [List.length_append, List.length_cons, List.length_nil]; omega⟩
      split
      · unfold backM
        split
        · exact ⟨hm1, by simp [wrongM], fun v q => by cases q⟩
        · rename_i vs r e
          obtain ⟨e1, e2, e3⟩ := popsM_ok e
          have hvs : ∀ v ∈ vs, VOk v := fun v hv => hf.2.1 v (by rw [e1]; exact List.mem_append_right _ hv)
          split
          · exact ⟨hm1, by simp, fun v q => by cases q; exact VOk_getD hvs 0⟩
          · exact ⟨hm1, by simp [wrongM], fun v q => by cases q⟩
      · have hd := doM_ok (fs := fs) (d := d) (x := x) (fr := ⟨fr.pc + 1, fr.stack, fr.slots⟩) (enterM_ok (fun g fr mc => loopM_ok fs fuel n (d + 1) g fr mc)) hf hm1 (by have := hm.2.1; dsimp only; omega)
        revert hd
        rcases doM (enterM (loopM fs fuel n (d + 1))) fs d x ⟨fr.pc + 1, fr.stack, fr.slots⟩ ⟨mc.steps + 1, mc.out, mc.high ++ [(fr.stack.length : Int)]⟩ with ⟨mc', (e | fr')⟩
        · rintro ⟨q1, q2, q3⟩
          exact ⟨q1, by dsimp only at q2 ⊢; omega, fun v q => by cases q⟩
        · rintro ⟨q1, q2, q3⟩
          obtain ⟨r1, r2, r3⟩ := loopM_ok fs fuel n d f fr' mc' (q3 fr' rfl).1 q1
          exact ⟨r1, by dsimp only at q2 r2 ⊢; omega, r3⟩
end Go.Proofs.YtlhkfjannhhcbaaGreatDoor
/- part M1 -/
namespace Go.Proofs.YtlhkfjannhhcbaaGreatDoor
open Go Go.W
theorem popsM_at {st vs : List Val} {ks : List Int} (h : vs.map (·.k) = ks) : popsM (st ++ vs) ks = some (vs, st) := by
  have hl : ks.length = vs.length := by rw [← h, List.length_map]
  unfold popsM
  rw [if_pos]
  · have : (st ++ vs).length - ks.length = st.length := by rw [List.length_append]; omega
    rw [this]; simp
  · have : (st ++ vs).length - ks.length = st.length := by rw [List.length_append]; omega
    rw [this]
    exact ⟨by rw [List.length_append]; omega, by simpa using h⟩
theorem popsM_no {st vs : List Val} {ks : List Int} {j : Nat} {k : Int} (hk : ks[j]? = some k) (h : vs.map (·.k) = ks.drop (j + 1)) (hn : ∀ l v, st = l ++ [v] → v.k ≠ k) : popsM (st ++ vs) ks = none := by
  have hj : j < ks.length := (List.getElem?_eq_some_iff.1 hk).1
  have hl : vs.length = ks.length - (j + 1) := by have := congrArg List.length h; simpa using this
  cases e : popsM (st ++ vs) ks with
  | none => rfl
  | some p =>
    obtain ⟨us, r⟩ := p
    obtain ⟨e1, e2, e3⟩ := popsM_ok e
    have hus : us.length = ks.length := by rw [← e2, List.length_map]
    have hst : st.length + vs.length = r.length + us.length := by have := congrArg List.length e1; simpa using this
    rcases List.eq_nil_or_concat st with rfl | ⟨l, v, rfl⟩
    · simp at hst; omega
    · simp only [List.concat_eq_append] at e1 hst
      have h1 : (l ++ [v] ++ vs)[l.length]? = some v := by simp
      rw [e1] at h1
      have hlen : l.length + 1 + vs.length = r.length + us.length := by simpa using hst
      have h2 : l.length - r.length = j := by omega
      rw [List.getElem?_append_right (by omega), h2] at h1
      have h3 : (us.map (·.k))[j]? = some v.k := by rw [List.getElem?_map, h1]; rfl
      rw [e2, hk] at h3
      exact absurd (Option.some.inj h3).symm (hn l v (by simp))
theorem popsM_one {st : List Val} {k : Int} : popsM st [k] = match st.getLast? with
    | none => none
    | some v => if v.k = k then some ([v], st.dropLast) else none := by
  rcases List.eq_nil_or_concat st with rfl | ⟨l, v, rfl⟩
  · simp [popsM]
  · simp only [List.concat_eq_append, List.getLast?_concat, List.dropLast_concat]
    split
    · rename_i h; exact popsM_at (by simp [h])
    · rename_i h
      have := popsM_no (st := l ++ [v]) (vs := []) (ks := [k]) (j := 0) rfl rfl (fun l' v' e => by
        have := List.append_inj_right' e rfl
        cases this; exact h)
      simpa using this
end Go.Proofs.YtlhkfjannhhcbaaGreatDoor
/- part B1 -/
set_option linter.unusedVariables false
set_option linter.unusedSimpArgs false
set_option maxRecDepth 100000
namespace Go.Proofs.YtlhkfjannhhcbaaGreatDoor
open Go Go.W Go.RowKit
theorem walk46 (n lo hi : Int) : PureV C 46 [.s (.int .i64 n), .s (.int .i64 lo), .s (.int .i64 hi)] (.s (.bool (rangeB n lo hi))) := by
  refine pure_of_run Tryz.func46 rfl (by kernel_rfl) (by kernel_rfl) (by simp) (fun _ => rfl) (fun _ => rfl) 6 1000 ?_
  by_cases c1 : lo ≤ n <;> by_cases c2 : n ≤ hi <;> simp +contextual (maxSteps := 2000000) (disch := ((try unfold LIM at *); omega)) only [↓bcT, ↓bcF, WA, simprocAttr, wrI, rangeB, c1, c2]
theorem walk94 (t : Int) : PureV C 94 [.s (.int .i64 t)] (.s (.bool (typB t))) := by
  refine pure_of_run Tryz.func94 rfl (by kernel_rfl) (by kernel_rfl) (by simp) (fun _ => rfl) (fun _ => rfl) 6 1000 ?_
  simp +contextual (maxSteps := 2000000) (disch := ((try unfold LIM at *); omega)) only [↓bcT, ↓bcF, WA, simprocAttr, wrI]
  refine CallThen.pure (walk46 t 1 3) 1000 ?_
  simp +contextual (maxSteps := 2000000) (disch := ((try unfold LIM at *); omega)) only [↓bcT, ↓bcF, WA, simprocAttr, wrI, typB]
theorem walk96 (t : Int) : PureV C 96 [.s (.int .i64 t)] (.s (.bool (rangeB t (-99999999999999999) 99999999999999999))) := by
  refine pure_of_run Tryz.func96 rfl (by kernel_rfl) (by kernel_rfl) (by simp) (fun _ => rfl) (fun _ => rfl) 6 1000 ?_
  simp +contextual (maxSteps := 2000000) (disch := ((try unfold LIM at *); omega)) only [↓bcT, ↓bcF, WA, simprocAttr, wrI]
  refine CallThen.pure (walk46 t _ _) 1000 ?_
  simp +contextual (maxSteps := 2000000) (disch := ((try unfold LIM at *); omega)) only [↓bcT, ↓bcF, WA, simprocAttr, wrI]
theorem walk70 (n : Int) (k : Nat) (hk : k ≤ 1048576) : PureV C 70 [.s (.int .i64 n), .s (.int .i64 k)] (.s (.bool (rangeB n 0 ((k : Int) - 1)))) := by
  refine pure_of_run Tryz.func70 rfl (by kernel_rfl) (by kernel_rfl) (by simp) (fun _ => rfl) (fun _ => rfl) 6 1000 ?_
  simp +contextual (maxSteps := 2000000) (disch := ((try unfold LIM at *); omega)) only [↓bcT, ↓bcF, WA, simprocAttr, wrI]
  refine CallThen.pure (walk46 n 0 _) 1000 ?_
  simp +contextual (maxSteps := 2000000) (disch := ((try unfold LIM at *); omega)) only [↓bcT, ↓bcF, WA, simprocAttr, wrI]
theorem walk124 (t : Int) : PureV C 124 [.s (.int .i64 t)] (.s (.bool (!typB t))) := by
  refine pure_of_run Tryz.func124 rfl (by kernel_rfl) (by kernel_rfl) (by simp) (fun _ => rfl) (fun _ => rfl) 6 1000 ?_
  simp +contextual (maxSteps := 2000000) (disch := ((try unfold LIM at *); omega)) only [↓bcT, ↓bcF, WA, simprocAttr, wrI]
  refine CallThen.pure (walk94 t) 1000 ?_
  simp +contextual (maxSteps := 2000000) (disch := ((try unfold LIM at *); omega)) only [↓bcT, ↓bcF, WA, simprocAttr, wrI]
theorem walk67 (x : Ins) : PureV C 67 [.agg (insV x)] (.s (.bool (insB x))) := by
  refine pure_of_run Tryz.func67 rfl (by kernel_rfl) (by kernel_rfl) (by simp) (fun _ => rfl) (fun _ => rfl) 6 1000 ?_
  by_cases c1 : x.op = 1
  · simp +contextual (maxSteps := 2000000) (disch := ((try unfold LIM at *); omega)) only [↓bcT, ↓bcF, WA, simprocAttr, wrI, insV, c1]
    refine CallThen.pure (walk96 x.a) 1000 ?_
    simp +contextual (maxSteps := 2000000) (disch := ((try unfold LIM at *); omega)) only [↓bcT, ↓bcF, WA, simprocAttr, wrI, insB, c1]
  by_cases c2 : x.op = 2
  · simp +contextual (maxSteps := 2000000) (disch := ((try unfold LIM at *); omega)) only [↓bcT, ↓bcF, WA, simprocAttr, wrI, insV, c2]
    refine CallThen.pure (walk46 x.a 0 1) 1000 ?_
    simp +contextual (maxSteps := 2000000) (disch := ((try unfold LIM at *); omega)) only [↓bcT, ↓bcF, WA, simprocAttr, wrI, insB, c2]
  by_cases c3 : x.op = 9
  · simp +contextual (maxSteps := 2000000) (disch := ((try unfold LIM at *); omega)) only [↓bcT, ↓bcF, WA, simprocAttr, wrI, insV, c3, insB]
  simp +contextual (maxSteps := 2000000) (disch := ((try unfold LIM at *); omega)) only [↓bcT, ↓bcF, WA, simprocAttr, wrI, insV, c1, c2, c3]
  refine CallThen.pure (walk46 x.op 1 10) 1000 ?_
  cases h1 : rangeB x.op 1 10
  · simp +contextual (maxSteps := 2000000) (disch := ((try unfold LIM at *); omega)) only [↓bcT, ↓bcF, WA, simprocAttr, wrI, h1, insB, c1, c2, c3]
  · simp +contextual (maxSteps := 2000000) (disch := ((try unfold LIM at *); omega)) only [↓bcT, ↓bcF, WA, simprocAttr, wrI]
    refine CallThen.pure (walk46 x.a 0 1000) 1000 ?_
    simp +contextual (maxSteps := 2000000) (disch := ((try unfold LIM at *); omega)) only [↓bcT, ↓bcF, WA, simprocAttr, wrI, h1, insB, c1, c2, c3]
theorem walk66 (x : Ins) : PureV C 66 [.agg (insV x)] (.s (.bool (!insB x))) := by
  refine pure_of_run Tryz.func66 rfl (by kernel_rfl) (by kernel_rfl) (by simp) (fun _ => rfl) (fun _ => rfl) 6 1000 ?_
  simp +contextual (maxSteps := 2000000) (disch := ((try unfold LIM at *); omega)) only [↓bcT, ↓bcF, WA, simprocAttr, wrI, insV]
  refine CallThen.pure (walk67 x) 1000 ?_
  simp +contextual (maxSteps := 2000000) (disch := ((try unfold LIM at *); omega)) only [↓bcT, ↓bcF, WA, simprocAttr, wrI]
def idxL {α : Type} (p : α → Bool) : List α → Int → Int
  | [], _ => -1
  | a :: r, i => if p a = true then i else idxL p r (i + 1)
theorem idxL_any {α : Type} (p : α → Bool) : ∀ (l : List α) (i : Int), 0 ≤ i → decide (0 ≤ idxL p l i) = l.any p
  | [], i, h => by simp [idxL]
  | a :: r, i, h => by
    simp only [idxL, List.any_cons]
    by_cases hp : p a = true
    · simp [hp, h]
    · have e := idxL_any p r (i + 1) (by omega)
      simp only [Bool.not_eq_true] at hp
      simp [hp, e]
theorem walk150 (l : List ByteArray) (s : ByteArray) : PureV C 150 [.f 1 (l.map sV), .s (.string s)] (.s (.int .i64 (idxL (fun w => decide (w = s)) l 0))) := by
  refine pure_of_run Tryz.func150 rfl (by kernel_rfl) (by kernel_rfl) (by simp) (fun _ => rfl) (fun _ => rfl) 6 1000 ?_
  simp +contextual (maxSteps := 2000000) (disch := ((try unfold LIM at *); omega)) only [↓bcT, ↓bcF, WA, simprocAttr, wrI, List.length_map]
  intro hl
  refine LoopThen.pure (ι := Nat) (fun i => i ≤ l.length ∧ idxL (fun w => decide (w = s)) (l.drop i) i = idxL (fun w => decide (w = s)) l 0) (fun i => keepL [(0, .f 1 (l.map sV)), (1, .s (.string s)), (7, .s (.int .i64 l.length)), (8, .s (.int .i64 i))]) (fun i => l.length - i)
    6 [0, 1, 7, 8] 1000 1000 ⟨0, ⟨by omega, rfl⟩, by simp +contextual (maxSteps := 2000000) (disch := ((try unfold LIM at *); omega)) only [↓bcT, ↓bcF, WA, simprocAttr, wrI]⟩ ?_
  rintro i ⟨p1, p4⟩
  by_cases c2 : (i : Int) < l.length
  · obtain ⟨f, hf⟩ := get_lt c2
    have pi : (0 : Int) ≤ i := by omega
    rw [drop_cons hf] at p4
    simp only [idxL] at p4
    by_cases c3 : f = s
    · rw [if_pos (by simp [c3])] at p4
      simp +contextual (maxSteps := 2000000) (disch := ((try unfold LIM at *); omega)) only [↓bcT, ↓bcF, WA, simprocAttr, wrI, List.length_map, hl, c2, hf, pi, sV, c3, ← p4]
    · rw [if_neg (by simp [c3])] at p4
      have c3' : ¬ s = f := fun e => c3 e.symm
      simp +contextual (maxSteps := 2000000) (disch := ((try unfold LIM at *); omega)) only [↓bcT, ↓bcF, WA, simprocAttr, wrI, List.length_map, hl, c2, hf, pi, sV, c3', cast_succ]
      refine ⟨i + 1, ⟨⟨by omega, ?_⟩, by omega⟩, rfl⟩
      rw [← p4]; rfl
  · have e : i = l.length := by omega
    subst e
    simp only [List.drop_length, idxL] at p4
    simp +contextual (maxSteps := 2000000) (disch := ((try unfold LIM at *); omega)) only [↓bcT, ↓bcF, WA, simprocAttr, wrI, List.length_map, hl, c2, ← p4]
theorem walk123 (l : List ByteArray) (s : ByteArray) : PureV C 123 [.f 1 (l.map sV), .s (.string s)] (.s (.bool (l.any fun w => decide (w = s)))) := by
  refine pure_of_run Tryz.func123 rfl (by kernel_rfl) (by kernel_rfl) (by simp) (fun _ => rfl) (fun _ => rfl) 6 1000 ?_
  simp +contextual (maxSteps := 2000000) (disch := ((try unfold LIM at *); omega)) only [↓bcT, ↓bcF, WA, simprocAttr, wrI]
  refine CallThen.pure (walk150 l s) 1000 ?_
  simp +contextual (maxSteps := 2000000) (disch := ((try unfold LIM at *); omega)) only [↓bcT, ↓bcF, WA, simprocAttr, wrI, idxL_any _ l 0 (Int.le_refl 0)]
theorem walk97 (l : List Int) (g : Nat) (caps : List V) (p : Int → Bool) (hc : ∀ ρ, caps.map (rnP ρ) = caps) (hz : ∀ d h, caps.map (frz 0 d h) = caps) (hp : ∀ x ∈ l, PureV C g (.s (.int .i64 x) :: caps) (.s (.bool (p x)))) : PureV C 97 [.f 1 (l.map iV), .fn g caps] (.s (.int .i64 (idxL p l 0))) := by
  refine pure_of_run Tryz.func97 rfl (by kernel_rfl) (by kernel_rfl) (by simp) (fun ρ => by show [V.f 1 _, V.fn g (caps.map (rnP ρ))] = _; rw [hc]) (fun _ => rfl) 6 1000 ?_
  simp +contextual (maxSteps := 2000000) (disch := ((try unfold LIM at *); omega)) only [↓bcT, ↓bcF, WA, simprocAttr, wrI, List.length_map]
  intro hl
  refine LoopThen.pure (ι := Nat) (fun i => i ≤ l.length ∧ idxL p (l.drop i) i = idxL p l 0) (fun i => keepL [(0, .f 1 (l.map iV)), (1, .fn g caps), (7, .s (.int .i64 l.length)), (8, .s (.int .i64 i))]) (fun i => l.length - i)
    6 [0, 1, 7, 8] 1000 1000 ⟨0, ⟨by omega, rfl⟩, by simp +contextual (maxSteps := 2000000) (disch := ((try unfold LIM at *); omega)) only [↓bcT, ↓bcF, WA, simprocAttr, wrI, hz]⟩ ?_
  rintro i ⟨p1, p4⟩
  by_cases c2 : (i : Int) < l.length
  · obtain ⟨f, hf⟩ := get_lt c2
    have pi : (0 : Int) ≤ i := by omega
    rw [drop_cons hf] at p4
    simp only [idxL] at p4
    simp +contextual (maxSteps := 2000000) (disch := ((try unfold LIM at *); omega)) only [↓bcT, ↓bcF, WA, simprocAttr, wrI, List.length_map, hl, c2, hf, pi, iV, cast_succ]
    refine CallThen.pure (hp f (List.mem_of_getElem? hf)) 1000 ?_
    cases c3 : p f
    · rw [c3, if_neg (by simp)] at p4
      simp +contextual (maxSteps := 2000000) (disch := ((try unfold LIM at *); omega)) only [↓bcT, ↓bcF, WA, simprocAttr, wrI, cast_succ, hz]
      refine ⟨i + 1, ⟨⟨by omega, ?_⟩, by omega⟩, rfl⟩
      rw [← p4]; rfl
    · rw [c3, if_pos rfl] at p4
      simp +contextual (maxSteps := 2000000) (disch := ((try unfold LIM at *); omega)) only [↓bcT, ↓bcF, WA, simprocAttr, wrI, ← p4]
  · have e : i = l.length := by omega
    subst e
    simp only [List.drop_length, idxL] at p4
    simp +contextual (maxSteps := 2000000) (disch := ((try unfold LIM at *); omega)) only [↓bcT, ↓bcF, WA, simprocAttr, wrI, List.length_map, hl, c2, ← p4]
theorem walk68 (l : List Int) (g : Nat) (caps : List V) (p : Int → Bool) (hc : ∀ ρ, caps.map (rnP ρ) = caps) (hz : ∀ d h, caps.map (frz 0 d h) = caps) (hp : ∀ x ∈ l, PureV C g (.s (.int .i64 x) :: caps) (.s (.bool (p x)))) : PureV C 68 [.f 1 (l.map iV), .fn g caps] (.s (.bool (l.any p))) := by
  refine pure_of_run Tryz.func68 rfl (by kernel_rfl) (by kernel_rfl) (by simp) (fun ρ => by show [V.f 1 _, V.fn g (caps.map (rnP ρ))] = _; rw [hc]) (fun _ => rfl) 6 1000 ?_
  simp +contextual (maxSteps := 2000000) (disch := ((try unfold LIM at *); omega)) only [↓bcT, ↓bcF, WA, simprocAttr, wrI]
  refine CallThen.pure (walk97 l g caps p hc hz hp) 1000 ?_
  simp +contextual (maxSteps := 2000000) (disch := ((try unfold LIM at *); omega)) only [↓bcT, ↓bcF, WA, simprocAttr, wrI, idxL_any _ l 0 (Int.le_refl 0)]
theorem walk95 (l : List Ins) (g : Nat) (p : Ins → Bool) (hp : ∀ x ∈ l, PureV C g [.agg (insV x)] (.s (.bool (p x)))) : PureV C 95 [.f 2 (l.map insV), .fn g []] (.s (.int .i64 (idxL p l 0))) := by
  refine pure_of_run Tryz.func95 rfl (by kernel_rfl) (by kernel_rfl) (by simp) (fun _ => rfl) (fun _ => rfl) 6 1000 ?_
  simp +contextual (maxSteps := 2000000) (disch := ((try unfold LIM at *); omega)) only [↓bcT, ↓bcF, WA, simprocAttr, wrI, List.length_map]
  intro hl
  refine LoopThen.pure (ι := Nat) (fun i => i ≤ l.length ∧ idxL p (l.drop i) i = idxL p l 0) (fun i => keepL [(0, .f 2 (l.map insV)), (1, .fn g []), (7, .s (.int .i64 l.length)), (8, .s (.int .i64 i))]) (fun i => l.length - i)
    6 [0, 1, 7, 8] 1000 1000 ⟨0, ⟨by omega, rfl⟩, by simp +contextual (maxSteps := 2000000) (disch := ((try unfold LIM at *); omega)) only [↓bcT, ↓bcF, WA, simprocAttr, wrI]⟩ ?_
  rintro i ⟨p1, p4⟩
  by_cases c2 : (i : Int) < l.length
  · obtain ⟨f, hf⟩ := get_lt c2
    have pi : (0 : Int) ≤ i := by omega
    rw [drop_cons hf] at p4
    simp only [idxL] at p4
    have hpf := hp f (List.mem_of_getElem? hf)
    simp only [insV] at hpf
    simp +contextual (maxSteps := 2000000) (disch := ((try unfold LIM at *); omega)) only [↓bcT, ↓bcF, WA, simprocAttr, wrI, List.length_map, hl, c2, hf, pi, insV, cast_succ]
    refine CallThen.pure hpf 1000 ?_
    cases c3 : p f
    · rw [c3, if_neg (by simp)] at p4
      simp +contextual (maxSteps := 2000000) (disch := ((try unfold LIM at *); omega)) only [↓bcT, ↓bcF, WA, simprocAttr, wrI, cast_succ]
      refine ⟨i + 1, ⟨⟨by omega, ?_⟩, by omega⟩, rfl⟩
      rw [← p4]; rfl
    · rw [c3, if_pos rfl] at p4
      simp +contextual (maxSteps := 2000000) (disch := ((try unfold LIM at *); omega)) only [↓bcT, ↓bcF, WA, simprocAttr, wrI, ← p4]
  · have e : i = l.length := by omega
    subst e
    simp only [List.drop_length, idxL] at p4
    simp +contextual (maxSteps := 2000000) (disch := ((try unfold LIM at *); omega)) only [↓bcT, ↓bcF, WA, simprocAttr, wrI, List.length_map, hl, c2, ← p4]
theorem walk65 (l : List Ins) (g : Nat) (p : Ins → Bool) (hp : ∀ x ∈ l, PureV C g [.agg (insV x)] (.s (.bool (p x)))) : PureV C 65 [.f 2 (l.map insV), .fn g []] (.s (.bool (l.any p))) := by
  refine pure_of_run Tryz.func65 rfl (by kernel_rfl) (by kernel_rfl) (by simp) (fun _ => rfl) (fun _ => rfl) 6 1000 ?_
  simp +contextual (maxSteps := 2000000) (disch := ((try unfold LIM at *); omega)) only [↓bcT, ↓bcF, WA, simprocAttr, wrI]
  refine CallThen.pure (walk95 l g p hp) 1000 ?_
  simp +contextual (maxSteps := 2000000) (disch := ((try unfold LIM at *); omega)) only [↓bcT, ↓bcF, WA, simprocAttr, wrI, idxL_any _ l 0 (Int.le_refl 0)]
theorem any_not {α : Type} (p : α → Bool) : ∀ (l : List α), (!l.any fun x => !p x) = l.all p
  | [] => rfl
  | a :: r => by simp only [List.any_cons, List.all_cons, Bool.not_or, Bool.not_not, any_not p r]
theorem walk93 (l : List Int) : PureV C 93 [.f 1 (l.map iV)] (.s (.bool (decide (l.length ≤ 4) && l.all typB))) := by
  refine pure_of_run Tryz.func93 rfl (by kernel_rfl) (by kernel_rfl) (by simp) (fun _ => rfl) (fun _ => rfl) 6 1000 ?_
  have w42 := walk68 l 124 [] (fun t => !typB t) (fun _ => rfl) (fun _ _ => rfl) (fun x _ => walk124 x)
  have ha := any_not typB l
  by_cases c1 : (l.length : Int) ≤ 4
  · have c1' : l.length ≤ 4 := by omega
    simp +contextual (maxSteps := 2000000) (disch := ((try unfold LIM at *); omega)) only [↓bcT, ↓bcF, WA, simprocAttr, wrI, List.length_map, c1]
    intro hl
    refine CallThen.pure w42 1000 ?_
    simp +contextual (maxSteps := 2000000) (disch := ((try unfold LIM at *); omega)) only [↓bcT, ↓bcF, WA, simprocAttr, wrI, ha, c1']
  · have c1' : ¬ l.length ≤ 4 := by omega
    simp +contextual (maxSteps := 2000000) (disch := ((try unfold LIM at *); omega)) only [↓bcT, ↓bcF, WA, simprocAttr, wrI, List.length_map, c1, c1']
theorem walk92 (s : ByteArray) : PureV C 92 [.s (.string s)] (.s (.bool (kept.any fun w => decide (w = s)))) := by
  refine pure_of_run Tryz.func92 rfl (by kernel_rfl) (by kernel_rfl) (by simp) (fun _ => rfl) (fun _ => rfl) 6 1000 ?_
  simp +contextual (maxSteps := 2000000) (disch := ((try unfold LIM at *); omega)) only [↓bcT, ↓bcF, WA, simprocAttr, wrI, List.replicate]
  refine CallThen.borrow (walk123 kept s) (flat_s _) 6 ?_ 1000 ?_
  · simp +contextual (maxSteps := 2000000) (disch := ((try unfold LIM at *); omega)) only [↓bcT, ↓bcF, WA, simprocAttr, wrI, kept, sV]
  · simp +contextual (maxSteps := 2000000) (disch := ((try unfold LIM at *); omega)) only [↓bcT, ↓bcF, WA, simprocAttr, wrI]
theorem low_true {c : UInt8} (h : low c = true) : ¬ (c.toNat : Int) < 97 ∧ ¬ (122 : Int) < c.toNat := by
  simp only [low, Bool.and_eq_true, decide_eq_true_eq] at h; omega
theorem walk63 (s : ByteArray) : PureV C 63 [.s (.string s)] (.s (.bool (nameB s))) := by
  refine pure_of_run Tryz.func63 rfl (by kernel_rfl) (by kernel_rfl) (by simp) (fun _ => rfl) (fun _ => rfl) 6 1000 ?_
  simp +contextual (maxSteps := 2000000) (disch := ((try unfold LIM at *); omega)) only [↓bcT, ↓bcF, WA, simprocAttr, wrI]
  intro hl
  refine LoopThen.pure (ι := Nat) (fun i => i ≤ s.size ∧ (s.data.toList.drop i).all low = s.data.toList.all low) (fun i => keepL [(0, .s (.string s)), (5, .s (.int .i64 s.size)), (6, .s (.int .i64 i))]) (fun i => s.size - i)
    6 [0, 5, 6] 1000 1000 ⟨0, ⟨by omega, rfl⟩, by simp +contextual (maxSteps := 2000000) (disch := ((try unfold LIM at *); omega)) only [↓bcT, ↓bcF, WA, simprocAttr, wrI]⟩ ?_
  rintro i ⟨p1, p4⟩
  by_cases c2 : (i : Int) < s.size
  · have hlt : i < s.size := by omega
    have hb : s[i]? = some s[i] := getElem?_pos s i hlt
    have hb' : s.data.toList[i]? = some s[i] := by
      simp only [ByteArray.size] at hlt
      rw [Array.getElem?_toList, Array.getElem?_eq_getElem hlt]; rfl
    have pi : (0 : Int) ≤ i := by omega
    rw [drop_cons hb'] at p4
    simp only [List.all_cons] at p4
    generalize s[i] = c at *
    cases c3 : low c
    · rw [c3, Bool.false_and] at p4
      have e : nameB s = false := by simp only [nameB, ← p4, Bool.false_and]
      simp only [low, Bool.and_eq_false_iff, decide_eq_false_iff_not] at c3
      by_cases c4 : (c.toNat : Int) < 97
      · simp +contextual (maxSteps := 2000000) (disch := ((try unfold LIM at *); omega)) only [↓bcT, ↓bcF, WA, simprocAttr, wrI, c2, hb, pi, c4, e]
      · have c5 : (122 : Int) < c.toNat := by omega
        simp +contextual (maxSteps := 2000000) (disch := ((try unfold LIM at *); omega)) only [↓bcT, ↓bcF, WA, simprocAttr, wrI, c2, hb, pi, c4, c5, e]
    · rw [c3, Bool.true_and] at p4
      obtain ⟨c4, c5⟩ := low_true c3
      simp +contextual (maxSteps := 2000000) (disch := ((try unfold LIM at *); omega)) only [↓bcT, ↓bcF, WA, simprocAttr, wrI, c2, hb, pi, c4, c5, cast_succ]
      exact ⟨i + 1, ⟨⟨by omega, p4⟩, by omega⟩, rfl⟩
  · have e : i = s.size := by omega
    subst e
    have : s.data.toList.drop s.size = [] := List.drop_eq_nil_of_le (show s.data.toList.length ≤ s.size from Nat.le_of_eq Array.length_toList)
    rw [this] at p4
    simp only [List.all_nil] at p4
    simp +contextual (maxSteps := 2000000) (disch := ((try unfold LIM at *); omega)) only [↓bcT, ↓bcF, WA, simprocAttr, wrI, c2]
    intro hl2
    refine CallThen.pure (walk46 s.size 1 8) 1000 ?_
    have er : rangeB (s.size : Int) 1 8 = (decide (1 ≤ s.size) && decide (s.size ≤ 8)) := by
      unfold rangeB
      congr 1 <;> exact decide_eq_decide.2 (by omega)
    rw [er]
    cases c3 : (decide (1 ≤ s.size) && decide (s.size ≤ 8))
    · simp +contextual (maxSteps := 2000000) (disch := ((try unfold LIM at *); omega)) only [↓bcT, ↓bcF, WA, simprocAttr, wrI, nameB, ← p4, c3]
    · simp +contextual (maxSteps := 2000000) (disch := ((try unfold LIM at *); omega)) only [↓bcT, ↓bcF, WA, simprocAttr, wrI]
      refine CallThen.pure (walk92 s) 1000 ?_
      simp +contextual (maxSteps := 2000000) (disch := ((try unfold LIM at *); omega)) only [↓bcT, ↓bcF, WA, simprocAttr, wrI, nameB, ← p4, c3]
theorem walk64 (n : ByteArray) (l : List Int) (t sl : Int) : PureV C 64 [.s (.string n), .f 1 (l.map iV), .s (.int .i64 t), .s (.int .i64 sl)] (.s (.bool (headB n l t sl))) := by
  refine pure_of_run Tryz.func64 rfl (by kernel_rfl) (by kernel_rfl) (by simp) (fun _ => rfl) (fun _ => rfl) 6 1000 ?_
  simp +contextual (maxSteps := 2000000) (disch := ((try unfold LIM at *); omega)) only [↓bcT, ↓bcF, WA, simprocAttr, wrI]
  refine CallThen.pure (walk63 n) 1000 ?_
  have rest : ∀ b : Bool, (nameB n || decide (n = mainS)) = b → headB n l t sl = (b && (decide (l.length ≤ 4) && l.all typB) && typB t && rangeB sl 0 1000) := fun b e => by simp only [headB, e]
  cases c1 : nameB n
  · by_cases c2 : n = ⟨#[109, 97, 105, 110]⟩
    · have e1 := rest true (by simp [c2, mainS])
      simp +contextual (maxSteps := 2000000) (disch := ((try unfold LIM at *); omega)) only [↓bcT, ↓bcF, WA, simprocAttr, wrI, c2]
      refine CallThen.pure (walk93 l) 1000 ?_
      cases c3 : (decide (l.length ≤ 4) && l.all typB)
      · subst c2; simp +contextual (maxSteps := 2000000) (disch := ((try unfold LIM at *); omega)) only [↓bcT, ↓bcF, WA, simprocAttr, wrI, e1, c3]
      simp +contextual (maxSteps := 2000000) (disch := ((try unfold LIM at *); omega)) only [↓bcT, ↓bcF, WA, simprocAttr, wrI]
      refine CallThen.pure (walk94 t) 1000 ?_
      cases c4 : typB t
      · subst c2; simp +contextual (maxSteps := 2000000) (disch := ((try unfold LIM at *); omega)) only [↓bcT, ↓bcF, WA, simprocAttr, wrI, e1, c3, c4]
      simp +contextual (maxSteps := 2000000) (disch := ((try unfold LIM at *); omega)) only [↓bcT, ↓bcF, WA, simprocAttr, wrI]
      refine CallThen.pure (walk46 sl 0 1000) 1000 ?_
      subst c2; simp +contextual (maxSteps := 2000000) (disch := ((try unfold LIM at *); omega)) only [↓bcT, ↓bcF, WA, simprocAttr, wrI, e1, c3, c4]
    · have e1 := rest false (by simp [c1, c2, mainS])
      simp +contextual (maxSteps := 2000000) (disch := ((try unfold LIM at *); omega)) only [↓bcT, ↓bcF, WA, simprocAttr, wrI, c2, e1]
  · have e1 := rest true (by simp [c1])
    simp +contextual (maxSteps := 2000000) (disch := ((try unfold LIM at *); omega)) only [↓bcT, ↓bcF, WA, simprocAttr, wrI]
    refine CallThen.pure (walk93 l) 1000 ?_
    cases c3 : (decide (l.length ≤ 4) && l.all typB)
    · simp +contextual (maxSteps := 2000000) (disch := ((try unfold LIM at *); omega)) only [↓bcT, ↓bcF, WA, simprocAttr, wrI, e1, c3]
    simp +contextual (maxSteps := 2000000) (disch := ((try unfold LIM at *); omega)) only [↓bcT, ↓bcF, WA, simprocAttr, wrI]
    refine CallThen.pure (walk94 t) 1000 ?_
    cases c4 : typB t
    · simp +contextual (maxSteps := 2000000) (disch := ((try unfold LIM at *); omega)) only [↓bcT, ↓bcF, WA, simprocAttr, wrI, e1, c3, c4]
    simp +contextual (maxSteps := 2000000) (disch := ((try unfold LIM at *); omega)) only [↓bcT, ↓bcF, WA, simprocAttr, wrI]
    refine CallThen.pure (walk46 sl 0 1000) 1000 ?_
    simp +contextual (maxSteps := 2000000) (disch := ((try unfold LIM at *); omega)) only [↓bcT, ↓bcF, WA, simprocAttr, wrI, e1, c3, c4]
end Go.Proofs.YtlhkfjannhhcbaaGreatDoor
/- part B2 -/
set_option linter.unusedVariables false
set_option linter.unusedSimpArgs false
set_option maxRecDepth 100000
namespace Go.Proofs.YtlhkfjannhhcbaaGreatDoor
open Go Go.W Go.RowKit
theorem walk69 (cs : List V) (fs : List IFun) (n : Int) (hk : fs.length ≤ 1048576) : PureV C 69 [.s (.int .i64 n), .pd (.f 6 (fs.map fnV) :: cs)] (.s (.bool (!rangeB n 0 ((fs.length : Int) - 1)))) := by
  refine pure_of_run Tryz.func69 rfl (by kernel_rfl) (by kernel_rfl) (by simp) (fun _ => rfl) (fun _ => rfl) 6 1000 ?_
  simp +contextual (maxSteps := 2000000) (disch := ((try unfold LIM at *); omega)) only [↓bcT, ↓bcF, WA, simprocAttr, wrI, List.length_map]
  intro hl
  refine CallThen.pure (walk70 n fs.length hk) 1000 ?_
  simp +contextual (maxSteps := 2000000) (disch := ((try unfold LIM at *); omega)) only [↓bcT, ↓bcF, WA, simprocAttr, wrI]
def okF (f : IFun) : Bool := nameB f.mod && headB f.name f.args f.typ f.slots && decide (f.code.length ≤ 460) && f.code.all insB
theorem sizeN_drop : ∀ {fs : List IFun} {i : Nat} {f : IFun}, fs[i]? = some f → sizeN (fs.drop i) = f.code.length + sizeN (fs.drop (i + 1)) := fun h => by rw [drop_cons h]; rfl
def tailB (m : Img) : Bool := decide (m.funs.length ≤ 72) && decide (m.mains.length ≤ 8) && decide (sizeN m.funs ≤ 3680) && m.mains.all fun n => rangeB n 0 ((m.funs.length : Int) - 1)
theorem imgB_eq (m : Img) : imgB m = (m.funs.all okF && tailB m) := by
  unfold imgB tailB
  rw [Bool.and_assoc]; rfl
theorem walk45 (m : Img) (hk : m.funs.length ≤ 1048576) (hm : m.mains.length ≤ 1048576) (hs : sizeN m.funs ≤ 1048576) : PureV C 45 [.agg (imgV m)] (.s (.bool (imgB m))) := by
  refine pure_of_run Tryz.func45 rfl (by kernel_rfl) (by kernel_rfl) (by simp) (fun _ => rfl) (fun _ => rfl) 6 1000 ?_
  simp +contextual (maxSteps := 2000000) (disch := ((try unfold LIM at *); omega)) only [↓bcT, ↓bcF, WA, simprocAttr, wrI, imgV, List.length_map]
  intro hl
  refine LoopThen.own (ι := Nat × Nat) (fun p => p.1 ≤ m.funs.length ∧ p.2 + sizeN (m.funs.drop p.1) = sizeN m.funs ∧ (m.funs.drop p.1).all okF = m.funs.all okF)
    (fun p => [(1, .ptr 0 0 0), (3, .s (.int .i64 p.2)), (7, .f 6 (m.funs.map fnV)), (8, .s (.int .i64 m.funs.length)), (9, .s (.int .i64 p.1))])
    (fun _ => [⟨[[.f 6 (m.funs.map fnV), .f 1 (m.mains.map iV)]], 2, 1, true⟩]) (fun p => m.funs.length - p.1) 1000 1000
    ⟨(0, 0), ⟨Nat.zero_le _, by simp, rfl⟩, [0], by simp, by simp +contextual (maxSteps := 2000000) (disch := ((try unfold LIM at *); omega)) only [↓bcT, ↓bcF, WA, simprocAttr, wrI], by simp +contextual (maxSteps := 2000000) (disch := ((try unfold LIM at *); omega)) only [↓bcT, ↓bcF, WA, simprocAttr, wrI, nm_at]⟩ ?_
  rintro ⟨i, a⟩ ⟨p1, p2, p3⟩
  by_cases c2 : (i : Int) < m.funs.length
  · obtain ⟨f, hf⟩ := get_lt c2
    have pi : (0 : Int) ≤ i := by omega
    rw [drop_cons hf] at p3
    simp only [List.all_cons] at p3
    rw [sizeN_drop hf] at p2
    have b1 : (a : Int) + f.code.length ≤ 1048576 := by omega
    simp +contextual (maxSteps := 2000000) (disch := ((try unfold LIM at *); omega)) only [↓bcT, ↓bcF, WA, simprocAttr, wrI, List.length_map, hl, c2, hf, pi, fnV]
    intro hcl
    refine CallThen.pure (walk63 f.mod) 1000 ?_
    cases c3 : nameB f.mod
    · have e : imgB m = false := by
        rw [imgB_eq, ← p3]; simp only [okF, c3, Bool.false_and]
      simp +contextual (maxSteps := 2000000) (disch := ((try unfold LIM at *); omega)) only [↓bcT, ↓bcF, WA, simprocAttr, wrI, c3, e]
    simp +contextual (maxSteps := 2000000) (disch := ((try unfold LIM at *); omega)) only [↓bcT, ↓bcF, WA, simprocAttr, wrI]
    refine CallThen.pure (walk64 f.name f.args f.typ f.slots) 1000 ?_
    cases c4 : headB f.name f.args f.typ f.slots
    · have e : imgB m = false := by
        rw [imgB_eq, ← p3]; simp only [okF, c4, Bool.false_and, Bool.and_false]
      simp +contextual (maxSteps := 2000000) (disch := ((try unfold LIM at *); omega)) only [↓bcT, ↓bcF, WA, simprocAttr, wrI, c4, e]
    by_cases c5 : (460 : Int) < f.code.length
    · have e : imgB m = false := by
        have : ¬ f.code.length ≤ 460 := by omega
        rw [imgB_eq, ← p3]; simp only [okF, this, decide_false, Bool.false_and, Bool.and_false]
      simp +contextual (maxSteps := 2000000) (disch := ((try unfold LIM at *); omega)) only [↓bcT, ↓bcF, WA, simprocAttr, wrI, List.length_map, c5, e]
    have c5' : f.code.length ≤ 460 := by omega
    simp +contextual (maxSteps := 2000000) (disch := ((try unfold LIM at *); omega)) only [↓bcT, ↓bcF, WA, simprocAttr, wrI, List.length_map, c5]
    intro hcl2
    refine CallThen.pure (walk65 f.code 66 (fun x => !insB x) (fun x _ => walk66 x)) 1000 ?_
    have ha := any_not insB f.code
    cases c6 : f.code.any fun x => !insB x
    · rw [c6] at ha
      have eo : okF f = true := by simp only [okF, c3, c4, c5', ← ha, decide_true, Bool.and_self, Bool.not_false]
      rw [eo, Bool.true_and] at p3
      simp +contextual (maxSteps := 2000000) (disch := ((try unfold LIM at *); omega)) only [↓bcT, ↓bcF, WA, simprocAttr, wrI, List.length_map, cast_succ]
      exact ⟨(i + 1, a + f.code.length), ⟨⟨by simp only; omega, by simp only; omega, p3⟩, by simp only; omega⟩, [0], by simp, ⟨.inl ⟨rfl, rfl⟩, trivial⟩, by simp +contextual (maxSteps := 2000000) (disch := ((try unfold LIM at *); omega)) only [↓bcT, ↓bcF, WA, simprocAttr, wrI, nm_at, Int.natCast_add]⟩
    · rw [c6] at ha
      have e : imgB m = false := by
        rw [imgB_eq, ← p3]; simp only [okF, ← ha, Bool.not_true, Bool.and_false, Bool.false_and]
      simp +contextual (maxSteps := 2000000) (disch := ((try unfold LIM at *); omega)) only [↓bcT, ↓bcF, WA, simprocAttr, wrI, e]
  · have e : i = m.funs.length := by omega
    subst e
    simp only [List.drop_length, sizeN, List.all_nil] at p2 p3
    have e0 := imgB_eq m
    rw [← p3, Bool.true_and] at e0
    by_cases c3 : (m.funs.length : Int) ≤ 72
    · have c3' : m.funs.length ≤ 72 := by omega
      by_cases c4 : (m.mains.length : Int) ≤ 8
      · have c4' : m.mains.length ≤ 8 := by omega
        by_cases c5 : (a : Int) ≤ 3680
        · have c5' : sizeN m.funs ≤ 3680 := by omega
          have h42 := walk68 m.mains 69 [.pd [.f 6 (m.funs.map fnV), .f 1 (m.mains.map iV)]] (fun n => !rangeB n 0 ((m.funs.length : Int) - 1)) (fun _ => rfl) (fun _ _ => by simp only [List.map_cons, List.map_nil, frzs_pd]) (fun x _ => walk69 _ _ x hk)
          have ha := any_not (fun n => rangeB n 0 ((m.funs.length : Int) - 1)) m.mains
          simp +contextual (maxSteps := 2000000) (disch := ((try unfold LIM at *); omega)) only [↓bcT, ↓bcF, WA, simprocAttr, wrI, List.length_map, c2, c3, c4, c5]
          intro hl2 hl3
          refine CallThen.borrow h42 (flat_s _) 6 ?_ 1000 ?_
          · simp +contextual (maxSteps := 2000000) (disch := ((try unfold LIM at *); omega)) only [↓bcT, ↓bcF, WA, simprocAttr, wrI]
          · simp +contextual (maxSteps := 2000000) (disch := ((try unfold LIM at *); omega)) only [↓bcT, ↓bcF, WA, simprocAttr, wrI, e0, tailB, c3', c4', c5', ← ha]
        · have c5' : ¬ sizeN m.funs ≤ 3680 := by omega
          simp +contextual (maxSteps := 2000000) (disch := ((try unfold LIM at *); omega)) only [↓bcT, ↓bcF, WA, simprocAttr, wrI, List.length_map, c2, c3, c4, c5, e0, tailB, c3', c4', c5']
      · have c4' : ¬ m.mains.length ≤ 8 := by omega
        simp +contextual (maxSteps := 2000000) (disch := ((try unfold LIM at *); omega)) only [↓bcT, ↓bcF, WA, simprocAttr, wrI, List.length_map, c2, c3, c4, e0, tailB, c3', c4']
    · have c3' : ¬ m.funs.length ≤ 72 := by omega
      simp +contextual (maxSteps := 2000000) (disch := ((try unfold LIM at *); omega)) only [↓bcT, ↓bcF, WA, simprocAttr, wrI, List.length_map, c2, c3, e0, tailB, c3']
end Go.Proofs.YtlhkfjannhhcbaaGreatDoor
/- part B3 -/
set_option linter.unusedVariables false
set_option linter.unusedSimpArgs false
set_option maxRecDepth 100000
namespace Go.Proofs.YtlhkfjannhhcbaaGreatDoor
open Go Go.W Go.RowKit
theorem iV_nr (n : Int) : (iV n).all nr = true := rfl
theorem iV_ok (n : Int) : (iV n).all cellOk = true := rfl
theorem iV_plain (n : Int) : (iV n).all plain = true := rfl
theorem iV_fz (n : Int) : (iV n).all fzOk = true := rfl
section
variable {D : Cx} {N n0 : Nat} {Q : QT} {k : List It} {τ : Tau} {h : H} {d : Option Nat}
end
theorem pure127 (els : List (List V)) : PureV C 127 [.f 1 els] (.fn 154 [.pd [.f 1 els]]) := by
  refine pure_of_run Tryz.func127 rfl (by kernel_rfl) (by kernel_rfl) (by simp) (fun _ => rfl) (fun _ => rfl) 6 1000 ?_
  simp +contextual (maxSteps := 2000000) (disch := ((try unfold LIM at *); omega)) only [↓bcT, ↓bcF, WA, simprocAttr, wrI]
theorem back154 : BackV C 154 1 false := by
  refine BackV.of (pre := [_, _, _, _, _, _]) 1000 Tryz.func154 rfl rfl rfl rfl rfl rfl rfl (by decide) (by kernel_rfl) ?_ ?_ ?_ ?_ ?_ ?_ ?_
  · intro l els hl
    simp +contextual (maxSteps := 2000000) (disch := ((try unfold LIM at *); omega)) only [↓bcT, ↓bcF, WA, simprocAttr, wrI, is3]
  · intro l els
    simp +contextual (maxSteps := 2000000) (disch := ((try unfold LIM at *); omega)) only [↓bcT, ↓bcF, WA, simprocAttr, wrI, T3]
  · intro l els k
    have pi : (0 : Int) ≤ k := by omega
    simp +contextual (maxSteps := 2000000) (disch := ((try unfold LIM at *); omega)) only [↓bcT, ↓bcF, WA, simprocAttr, wrI, T3, is3, pi]
  · intro l els k x hx hlx hfx hk hl
    match x, hlx, hfx with
    | [a], _, hfx =>
      simp only [List.all_cons, List.all_nil, Bool.and_true] at hfx
      have pi : (0 : Int) ≤ k := by omega
      simp +contextual (maxSteps := 2000000) (disch := ((try unfold LIM at *); omega)) only [↓bcT, ↓bcF, WA, simprocAttr, wrI, T3, is3, hx, pi, fz_cell hfx, rowW, List.headD_cons]
  · intro l els k
    simp +contextual (maxSteps := 2000000) (disch := ((try unfold LIM at *); omega)) only [↓bcT, ↓bcF, WA, simprocAttr, wrI, T3, is3]
  · simp +contextual (maxSteps := 2000000) (disch := ((try unfold LIM at *); omega)) only [↓bcT, ↓bcF, WA, simprocAttr, wrI]
  · intro l els k hk
    simp +contextual (maxSteps := 2000000) (disch := ((try unfold LIM at *); omega)) only [↓bcT, ↓bcF, WA, simprocAttr, wrI, T3, is3]
end Go.Proofs.YtlhkfjannhhcbaaGreatDoor
/- part B4 -/
set_option linter.unusedVariables false
set_option linter.unusedSimpArgs false
set_option maxRecDepth 100000
namespace Go.Proofs.YtlhkfjannhhcbaaGreatDoor
open Go Go.W Go.RowKit
def primW : Nat → ByteArray
  | 0 => ⟨#[43]⟩ | 1 => ⟨#[45]⟩ | 2 => ⟨#[42]⟩ | 3 => ⟨#[47]⟩ | 4 => ⟨#[37]⟩ | 5 => ⟨#[60]⟩ | 6 => ⟨#[60, 61]⟩ | 7 => ⟨#[61]⟩
  | 8 => ⟨#[110, 111, 116]⟩ | 9 => ⟨#[97, 116]⟩ | 10 => ⟨#[108, 101, 110]⟩ | 11 => ⟨#[112, 117, 116]⟩ | 12 => ⟨#[106, 111, 105, 110]⟩ | _ => ⟨#[112, 114, 105, 110, 116]⟩
def primRes (i : Nat) : V := .tup [.f 1 ((primT i).1.map iV), .s (.int .i64 (primT i).2)]
theorem ne_0_1 : ¬ ((⟨#[43]⟩ : ByteArray) = ⟨#[45]⟩) := by decide
theorem ne_0_2 : ¬ ((⟨#[43]⟩ : ByteArray) = ⟨#[42]⟩) := by decide
theorem ne_0_3 : ¬ ((⟨#[43]⟩ : ByteArray) = ⟨#[47]⟩) := by decide
theorem ne_0_4 : ¬ ((⟨#[43]⟩ : ByteArray) = ⟨#[37]⟩) := by decide
theorem ne_0_5 : ¬ ((⟨#[43]⟩ : ByteArray) = ⟨#[60]⟩) := by decide
theorem ne_0_6 : ¬ ((⟨#[43]⟩ : ByteArray) = ⟨#[60, 61]⟩) := by decide
theorem ne_0_7 : ¬ ((⟨#[43]⟩ : ByteArray) = ⟨#[61]⟩) := by decide
theorem ne_0_8 : ¬ ((⟨#[43]⟩ : ByteArray) = ⟨#[110, 111, 116]⟩) := by decide
theorem ne_0_9 : ¬ ((⟨#[43]⟩ : ByteArray) = ⟨#[97, 116]⟩) := by decide
theorem ne_0_10 : ¬ ((⟨#[43]⟩ : ByteArray) = ⟨#[108, 101, 110]⟩) := by decide
theorem ne_0_11 : ¬ ((⟨#[43]⟩ : ByteArray) = ⟨#[112, 117, 116]⟩) := by decide
theorem ne_0_12 : ¬ ((⟨#[43]⟩ : ByteArray) = ⟨#[106, 111, 105, 110]⟩) := by decide
theorem ne_0_13 : ¬ ((⟨#[43]⟩ : ByteArray) = ⟨#[112, 114, 105, 110, 116]⟩) := by decide
theorem ne_0_14 : ¬ ((⟨#[43]⟩ : ByteArray) = ⟨#[97, 110, 100]⟩) := by decide
theorem ne_0_15 : ¬ ((⟨#[43]⟩ : ByteArray) = ⟨#[111, 114]⟩) := by decide
theorem ne_1_0 : ¬ ((⟨#[45]⟩ : ByteArray) = ⟨#[43]⟩) := by decide
theorem ne_1_2 : ¬ ((⟨#[45]⟩ : ByteArray) = ⟨#[42]⟩) := by decide
theorem ne_1_3 : ¬ ((⟨#[45]⟩ : ByteArray) = ⟨#[47]⟩) := by decide
theorem ne_1_4 : ¬ ((⟨#[45]⟩ : ByteArray) = ⟨#[37]⟩) := by decide
theorem ne_1_5 : ¬ ((⟨#[45]⟩ : ByteArray) = ⟨#[60]⟩) := by decide
theorem ne_1_6 : ¬ ((⟨#[45]⟩ : ByteArray) = ⟨#[60, 61]⟩) := by decide
theorem ne_1_7 : ¬ ((⟨#[45]⟩ : ByteArray) = ⟨#[61]⟩) := by decide
theorem ne_1_8 : ¬ ((⟨#[45]⟩ : ByteArray) = ⟨#[110, 111, 116]⟩) := by decide
theorem ne_1_9 : ¬ ((⟨#[45]⟩ : ByteArray) = ⟨#[97, 116]⟩) := by decide
theorem ne_1_10 : ¬ ((⟨#[45]⟩ : ByteArray) = ⟨#[108, 101, 110]⟩) := by decide
theorem ne_1_11 : ¬ ((⟨#[45]⟩ : ByteArray) = ⟨#[112, 117, 116]⟩) := by decide
theorem ne_1_12 : ¬ ((⟨#[45]⟩ : ByteArray) = ⟨#[106, 111, 105, 110]⟩) := by decide
theorem ne_1_13 : ¬ ((⟨#[45]⟩ : ByteArray) = ⟨#[112, 114, 105, 110, 116]⟩) := by decide
theorem ne_1_14 : ¬ ((⟨#[45]⟩ : ByteArray) = ⟨#[97, 110, 100]⟩) := by decide
theorem ne_1_15 : ¬ ((⟨#[45]⟩ : ByteArray) = ⟨#[111, 114]⟩) := by decide
theorem ne_2_0 : ¬ ((⟨#[42]⟩ : ByteArray) = ⟨#[43]⟩) := by decide
theorem ne_2_1 : ¬ ((⟨#[42]⟩ : ByteArray) = ⟨#[45]⟩) := by decide
theorem ne_2_3 : ¬ ((⟨#[42]⟩ : ByteArray) = ⟨#[47]⟩) := by decide
theorem ne_2_4 : ¬ ((⟨#[42]⟩ : ByteArray) = ⟨#[37]⟩) := by decide
theorem ne_2_5 : ¬ ((⟨#[42]⟩ : ByteArray) = ⟨#[60]⟩) := by decide
theorem ne_2_6 : ¬ ((⟨#[42]⟩ : ByteArray) = ⟨#[60, 61]⟩) := by decide
theorem ne_2_7 : ¬ ((⟨#[42]⟩ : ByteArray) = ⟨#[61]⟩) := by decide
theorem ne_2_8 : ¬ ((⟨#[42]⟩ : ByteArray) = ⟨#[110, 111, 116]⟩) := by decide
theorem ne_2_9 : ¬ ((⟨#[42]⟩ : ByteArray) = ⟨#[97, 116]⟩) := by decide
theorem ne_2_10 : ¬ ((⟨#[42]⟩ : ByteArray) = ⟨#[108, 101, 110]⟩) := by decide
theorem ne_2_11 : ¬ ((⟨#[42]⟩ : ByteArray) = ⟨#[112, 117, 116]⟩) := by decide
theorem ne_2_12 : ¬ ((⟨#[42]⟩ : ByteArray) = ⟨#[106, 111, 105, 110]⟩) := by decide
theorem ne_2_13 : ¬ ((⟨#[42]⟩ : ByteArray) = ⟨#[112, 114, 105, 110, 116]⟩) := by decide
theorem ne_2_14 : ¬ ((⟨#[42]⟩ : ByteArray) = ⟨#[97, 110, 100]⟩) := by decide
theorem ne_2_15 : ¬ ((⟨#[42]⟩ : ByteArray) = ⟨#[111, 114]⟩) := by decide
theorem ne_3_0 : ¬ ((⟨#[47]⟩ : ByteArray) = ⟨#[43]⟩) := by decide
theorem ne_3_1 : ¬ ((⟨#[47]⟩ : ByteArray) = ⟨#[45]⟩) := by decide
theorem ne_3_2 : ¬ ((⟨#[47]⟩ : ByteArray) = ⟨#[42]⟩) := by decide
theorem ne_3_4 : ¬ ((⟨#[47]⟩ : ByteArray) = ⟨#[37]⟩) := by decide
theorem ne_3_5 : ¬ ((⟨#[47]⟩ : ByteArray) = ⟨#[60]⟩) := by decide
theorem ne_3_6 : ¬ ((⟨#[47]⟩ : ByteArray) = ⟨#[60, 61]⟩) := by decide
theorem ne_3_7 : ¬ ((⟨#[47]⟩ : ByteArray) = ⟨#[61]⟩) := by decide
theorem ne_3_8 : ¬ ((⟨#[47]⟩ : ByteArray) = ⟨#[110, 111, 116]⟩) := by decide
theorem ne_3_9 : ¬ ((⟨#[47]⟩ : ByteArray) = ⟨#[97, 116]⟩) := by decide
theorem ne_3_10 : ¬ ((⟨#[47]⟩ : ByteArray) = ⟨#[108, 101, 110]⟩) := by decide
theorem ne_3_11 : ¬ ((⟨#[47]⟩ : ByteArray) = ⟨#[112, 117, 116]⟩) := by decide
theorem ne_3_12 : ¬ ((⟨#[47]⟩ : ByteArray) = ⟨#[106, 111, 105, 110]⟩) := by decide
theorem ne_3_13 : ¬ ((⟨#[47]⟩ : ByteArray) = ⟨#[112, 114, 105, 110, 116]⟩) := by decide
theorem ne_3_14 : ¬ ((⟨#[47]⟩ : ByteArray) = ⟨#[97, 110, 100]⟩) := by decide
theorem ne_3_15 : ¬ ((⟨#[47]⟩ : ByteArray) = ⟨#[111, 114]⟩) := by decide
theorem ne_4_0 : ¬ ((⟨#[37]⟩ : ByteArray) = ⟨#[43]⟩) := by decide
theorem ne_4_1 : ¬ ((⟨#[37]⟩ : ByteArray) = ⟨#[45]⟩) := by decide
theorem ne_4_2 : ¬ ((⟨#[37]⟩ : ByteArray) = ⟨#[42]⟩) := by decide
theorem ne_4_3 : ¬ ((⟨#[37]⟩ : ByteArray) = ⟨#[47]⟩) := by decide
theorem ne_4_5 : ¬ ((⟨#[37]⟩ : ByteArray) = ⟨#[60]⟩) := by decide
theorem ne_4_6 : ¬ ((⟨#[37]⟩ : ByteArray) = ⟨#[60, 61]⟩) := by decide
theorem ne_4_7 : ¬ ((⟨#[37]⟩ : ByteArray) = ⟨#[61]⟩) := by decide
theorem ne_4_8 : ¬ ((⟨#[37]⟩ : ByteArray) = ⟨#[110, 111, 116]⟩) := by decide
theorem ne_4_9 : ¬ ((⟨#[37]⟩ : ByteArray) = ⟨#[97, 116]⟩) := by decide
theorem ne_4_10 : ¬ ((⟨#[37]⟩ : ByteArray) = ⟨#[108, 101, 110]⟩) := by decide
theorem ne_4_11 : ¬ ((⟨#[37]⟩ : ByteArray) = ⟨#[112, 117, 116]⟩) := by decide
theorem ne_4_12 : ¬ ((⟨#[37]⟩ : ByteArray) = ⟨#[106, 111, 105, 110]⟩) := by decide
theorem ne_4_13 : ¬ ((⟨#[37]⟩ : ByteArray) = ⟨#[112, 114, 105, 110, 116]⟩) := by decide
theorem ne_4_14 : ¬ ((⟨#[37]⟩ : ByteArray) = ⟨#[97, 110, 100]⟩) := by decide
theorem ne_4_15 : ¬ ((⟨#[37]⟩ : ByteArray) = ⟨#[111, 114]⟩) := by decide
theorem ne_5_0 : ¬ ((⟨#[60]⟩ : ByteArray) = ⟨#[43]⟩) := by decide
theorem ne_5_1 : ¬ ((⟨#[60]⟩ : ByteArray) = ⟨#[45]⟩) := by decide
theorem ne_5_2 : ¬ ((⟨#[60]⟩ : ByteArray) = ⟨#[42]⟩) := by decide
theorem ne_5_3 : ¬ ((⟨#[60]⟩ : ByteArray) = ⟨#[47]⟩) := by decide
theorem ne_5_4 : ¬ ((⟨#[60]⟩ : ByteArray) = ⟨#[37]⟩) := by decide
theorem ne_5_6 : ¬ ((⟨#[60]⟩ : ByteArray) = ⟨#[60, 61]⟩) := by decide
theorem ne_5_7 : ¬ ((⟨#[60]⟩ : ByteArray) = ⟨#[61]⟩) := by decide
theorem ne_5_8 : ¬ ((⟨#[60]⟩ : ByteArray) = ⟨#[110, 111, 116]⟩) := by decide
theorem ne_5_9 : ¬ ((⟨#[60]⟩ : ByteArray) = ⟨#[97, 116]⟩) := by decide
theorem ne_5_10 : ¬ ((⟨#[60]⟩ : ByteArray) = ⟨#[108, 101, 110]⟩) := by decide
theorem ne_5_11 : ¬ ((⟨#[60]⟩ : ByteArray) = ⟨#[112, 117, 116]⟩) := by decide
theorem ne_5_12 : ¬ ((⟨#[60]⟩ : ByteArray) = ⟨#[106, 111, 105, 110]⟩) := by decide
theorem ne_5_13 : ¬ ((⟨#[60]⟩ : ByteArray) = ⟨#[112, 114, 105, 110, 116]⟩) := by decide
theorem ne_5_14 : ¬ ((⟨#[60]⟩ : ByteArray) = ⟨#[97, 110, 100]⟩) := by decide
theorem ne_5_15 : ¬ ((⟨#[60]⟩ : ByteArray) = ⟨#[111, 114]⟩) := by decide
theorem ne_6_0 : ¬ ((⟨#[60, 61]⟩ : ByteArray) = ⟨#[43]⟩) := by decide
theorem ne_6_1 : ¬ ((⟨#[60, 61]⟩ : ByteArray) = ⟨#[45]⟩) := by decide
theorem ne_6_2 : ¬ ((⟨#[60, 61]⟩ : ByteArray) = ⟨#[42]⟩) := by decide
theorem ne_6_3 : ¬ ((⟨#[60, 61]⟩ : ByteArray) = ⟨#[47]⟩) := by decide
theorem ne_6_4 : ¬ ((⟨#[60, 61]⟩ : ByteArray) = ⟨#[37]⟩) := by decide
theorem ne_6_5 : ¬ ((⟨#[60, 61]⟩ : ByteArray) = ⟨#[60]⟩) := by decide
theorem ne_6_7 : ¬ ((⟨#[60, 61]⟩ : ByteArray) = ⟨#[61]⟩) := by decide
theorem ne_6_8 : ¬ ((⟨#[60, 61]⟩ : ByteArray) = ⟨#[110, 111, 116]⟩) := by decide
theorem ne_6_9 : ¬ ((⟨#[60, 61]⟩ : ByteArray) = ⟨#[97, 116]⟩) := by decide
theorem ne_6_10 : ¬ ((⟨#[60, 61]⟩ : ByteArray) = ⟨#[108, 101, 110]⟩) := by decide
theorem ne_6_11 : ¬ ((⟨#[60, 61]⟩ : ByteArray) = ⟨#[112, 117, 116]⟩) := by decide
theorem ne_6_12 : ¬ ((⟨#[60, 61]⟩ : ByteArray) = ⟨#[106, 111, 105, 110]⟩) := by decide
theorem ne_6_13 : ¬ ((⟨#[60, 61]⟩ : ByteArray) = ⟨#[112, 114, 105, 110, 116]⟩) := by decide
theorem ne_6_14 : ¬ ((⟨#[60, 61]⟩ : ByteArray) = ⟨#[97, 110, 100]⟩) := by decide
theorem ne_6_15 : ¬ ((⟨#[60, 61]⟩ : ByteArray) = ⟨#[111, 114]⟩) := by decide
theorem ne_7_0 : ¬ ((⟨#[61]⟩ : ByteArray) = ⟨#[43]⟩) := by decide
theorem ne_7_1 : ¬ ((⟨#[61]⟩ : ByteArray) = ⟨#[45]⟩) := by decide
theorem ne_7_2 : ¬ ((⟨#[61]⟩ : ByteArray) = ⟨#[42]⟩) := by decide
theorem ne_7_3 : ¬ ((⟨#[61]⟩ : ByteArray) = ⟨#[47]⟩) := by decide
theorem ne_7_4 : ¬ ((⟨#[61]⟩ : ByteArray) = ⟨#[37]⟩) := by decide
theorem ne_7_5 : ¬ ((⟨#[61]⟩ : ByteArray) = ⟨#[60]⟩) := by decide
theorem ne_7_6 : ¬ ((⟨#[61]⟩ : ByteArray) = ⟨#[60, 61]⟩) := by decide
theorem ne_7_8 : ¬ ((⟨#[61]⟩ : ByteArray) = ⟨#[110, 111, 116]⟩) := by decide
theorem ne_7_9 : ¬ ((⟨#[61]⟩ : ByteArray) = ⟨#[97, 116]⟩) := by decide
theorem ne_7_10 : ¬ ((⟨#[61]⟩ : ByteArray) = ⟨#[108, 101, 110]⟩) := by decide
theorem ne_7_11 : ¬ ((⟨#[61]⟩ : ByteArray) = ⟨#[112, 117, 116]⟩) := by decide
theorem ne_7_12 : ¬ ((⟨#[61]⟩ : ByteArray) = ⟨#[106, 111, 105, 110]⟩) := by decide
theorem ne_7_13 : ¬ ((⟨#[61]⟩ : ByteArray) = ⟨#[112, 114, 105, 110, 116]⟩) := by decide
theorem ne_7_14 : ¬ ((⟨#[61]⟩ : ByteArray) = ⟨#[97, 110, 100]⟩) := by decide
theorem ne_7_15 : ¬ ((⟨#[61]⟩ : ByteArray) = ⟨#[111, 114]⟩) := by decide
theorem ne_8_0 : ¬ ((⟨#[110, 111, 116]⟩ : ByteArray) = ⟨#[43]⟩) := by decide
theorem ne_8_1 : ¬ ((⟨#[110, 111, 116]⟩ : ByteArray) = ⟨#[45]⟩) := by decide
theorem ne_8_2 : ¬ ((⟨#[110, 111, 116]⟩ : ByteArray) = ⟨#[42]⟩) := by decide
theorem ne_8_3 : ¬ ((⟨#[110, 111, 116]⟩ : ByteArray) = ⟨#[47]⟩) := by decide
theorem ne_8_4 : ¬ ((⟨#[110, 111, 116]⟩ : ByteArray) = ⟨#[37]⟩) := by decide
theorem ne_8_5 : ¬ ((⟨#[110, 111, 116]⟩ : ByteArray) = ⟨#[60]⟩) := by decide
theorem ne_8_6 : ¬ ((⟨#[110, 111, 116]⟩ : ByteArray) = ⟨#[60, 61]⟩) := by decide
theorem ne_8_7 : ¬ ((⟨#[110, 111, 116]⟩ : ByteArray) = ⟨#[61]⟩) := by decide
theorem ne_8_9 : ¬ ((⟨#[110, 111, 116]⟩ : ByteArray) = ⟨#[97, 116]⟩) := by decide
theorem ne_8_10 : ¬ ((⟨#[110, 111, 116]⟩ : ByteArray) = ⟨#[108, 101, 110]⟩) := by decide
theorem ne_8_11 : ¬ ((⟨#[110, 111, 116]⟩ : ByteArray) = ⟨#[112, 117, 116]⟩) := by decide
theorem ne_8_12 : ¬ ((⟨#[110, 111, 116]⟩ : ByteArray) = ⟨#[106, 111, 105, 110]⟩) := by decide
theorem ne_8_13 : ¬ ((⟨#[110, 111, 116]⟩ : ByteArray) = ⟨#[112, 114, 105, 110, 116]⟩) := by decide
theorem ne_8_14 : ¬ ((⟨#[110, 111, 116]⟩ : ByteArray) = ⟨#[97, 110, 100]⟩) := by decide
theorem ne_8_15 : ¬ ((⟨#[110, 111, 116]⟩ : ByteArray) = ⟨#[111, 114]⟩) := by decide
theorem ne_9_0 : ¬ ((⟨#[97, 116]⟩ : ByteArray) = ⟨#[43]⟩) := by decide
theorem ne_9_1 : ¬ ((⟨#[97, 116]⟩ : ByteArray) = ⟨#[45]⟩) := by decide
theorem ne_9_2 : ¬ ((⟨#[97, 116]⟩ : ByteArray) = ⟨#[42]⟩) := by decide
theorem ne_9_3 : ¬ ((⟨#[97, 116]⟩ : ByteArray) = ⟨#[47]⟩) := by decide
theorem ne_9_4 : ¬ ((⟨#[97, 116]⟩ : ByteArray) = ⟨#[37]⟩) := by decide
theorem ne_9_5 : ¬ ((⟨#[97, 116]⟩ : ByteArray) = ⟨#[60]⟩) := by decide
theorem ne_9_6 : ¬ ((⟨#[97, 116]⟩ : ByteArray) = ⟨#[60, 61]⟩) := by decide
theorem ne_9_7 : ¬ ((⟨#[97, 116]⟩ : ByteArray) = ⟨#[61]⟩) := by decide
theorem ne_9_8 : ¬ ((⟨#[97, 116]⟩ : ByteArray) = ⟨#[110, 111, 116]⟩) := by decide
theorem ne_9_10 : ¬ ((⟨#[97, 116]⟩ : ByteArray) = ⟨#[108, 101, 110]⟩) := by decide
theorem ne_9_11 : ¬ ((⟨#[97, 116]⟩ : ByteArray) = ⟨#[112, 117, 116]⟩) := by decide
theorem ne_9_12 : ¬ ((⟨#[97, 116]⟩ : ByteArray) = ⟨#[106, 111, 105, 110]⟩) := by decide
theorem ne_9_13 : ¬ ((⟨#[97, 116]⟩ : ByteArray) = ⟨#[112, 114, 105, 110, 116]⟩) := by decide
theorem ne_9_14 : ¬ ((⟨#[97, 116]⟩ : ByteArray) = ⟨#[97, 110, 100]⟩) := by decide
theorem ne_9_15 : ¬ ((⟨#[97, 116]⟩ : ByteArray) = ⟨#[111, 114]⟩) := by decide
theorem ne_10_0 : ¬ ((⟨#[108, 101, 110]⟩ : ByteArray) = ⟨#[43]⟩) := by decide
theorem ne_10_1 : ¬ ((⟨#[108, 101, 110]⟩ : ByteArray) = ⟨#[45]⟩) := by decide
theorem ne_10_2 : ¬ ((⟨#[108, 101, 110]⟩ : ByteArray) = ⟨#[42]⟩) := by decide
theorem ne_10_3 : ¬ ((⟨#[108, 101, 110]⟩ : ByteArray) = ⟨#[47]⟩) := by decide
theorem ne_10_4 : ¬ ((⟨#[108, 101, 110]⟩ : ByteArray) = ⟨#[37]⟩) := by decide
theorem ne_10_5 : ¬ ((⟨#[108, 101, 110]⟩ : ByteArray) = ⟨#[60]⟩) := by decide
theorem ne_10_6 : ¬ ((⟨#[108, 101, 110]⟩ : ByteArray) = ⟨#[60, 61]⟩) := by decide
theorem ne_10_7 : ¬ ((⟨#[108, 101, 110]⟩ : ByteArray) = ⟨#[61]⟩) := by decide
theorem ne_10_8 : ¬ ((⟨#[108, 101, 110]⟩ : ByteArray) = ⟨#[110, 111, 116]⟩) := by decide
theorem ne_10_9 : ¬ ((⟨#[108, 101, 110]⟩ : ByteArray) = ⟨#[97, 116]⟩) := by decide
theorem ne_10_11 : ¬ ((⟨#[108, 101, 110]⟩ : ByteArray) = ⟨#[112, 117, 116]⟩) := by decide
theorem ne_10_12 : ¬ ((⟨#[108, 101, 110]⟩ : ByteArray) = ⟨#[106, 111, 105, 110]⟩) := by decide
theorem ne_10_13 : ¬ ((⟨#[108, 101, 110]⟩ : ByteArray) = ⟨#[112, 114, 105, 110, 116]⟩) := by decide
theorem ne_10_14 : ¬ ((⟨#[108, 101, 110]⟩ : ByteArray) = ⟨#[97, 110, 100]⟩) := by decide
theorem ne_10_15 : ¬ ((⟨#[108, 101, 110]⟩ : ByteArray) = ⟨#[111, 114]⟩) := by decide
theorem ne_11_0 : ¬ ((⟨#[112, 117, 116]⟩ : ByteArray) = ⟨#[43]⟩) := by decide
theorem ne_11_1 : ¬ ((⟨#[112, 117, 116]⟩ : ByteArray) = ⟨#[45]⟩) := by decide
theorem ne_11_2 : ¬ ((⟨#[112, 117, 116]⟩ : ByteArray) = ⟨#[42]⟩) := by decide
theorem ne_11_3 : ¬ ((⟨#[112, 117, 116]⟩ : ByteArray) = ⟨#[47]⟩) := by decide
theorem ne_11_4 : ¬ ((⟨#[112, 117, 116]⟩ : ByteArray) = ⟨#[37]⟩) := by decide
theorem ne_11_5 : ¬ ((⟨#[112, 117, 116]⟩ : ByteArray) = ⟨#[60]⟩) := by decide
theorem ne_11_6 : ¬ ((⟨#[112, 117, 116]⟩ : ByteArray) = ⟨#[60, 61]⟩) := by decide
theorem ne_11_7 : ¬ ((⟨#[112, 117, 116]⟩ : ByteArray) = ⟨#[61]⟩) := by decide
theorem ne_11_8 : ¬ ((⟨#[112, 117, 116]⟩ : ByteArray) = ⟨#[110, 111, 116]⟩) := by decide
theorem ne_11_9 : ¬ ((⟨#[112, 117, 116]⟩ : ByteArray) = ⟨#[97, 116]⟩) := by decide
theorem ne_11_10 : ¬ ((⟨#[112, 117, 116]⟩ : ByteArray) = ⟨#[108, 101, 110]⟩) := by decide
theorem ne_11_12 : ¬ ((⟨#[112, 117, 116]⟩ : ByteArray) = ⟨#[106, 111, 105, 110]⟩) := by decide
theorem ne_11_13 : ¬ ((⟨#[112, 117, 116]⟩ : ByteArray) = ⟨#[112, 114, 105, 110, 116]⟩) := by decide
theorem ne_11_14 : ¬ ((⟨#[112, 117, 116]⟩ : ByteArray) = ⟨#[97, 110, 100]⟩) := by decide
theorem ne_11_15 : ¬ ((⟨#[112, 117, 116]⟩ : ByteArray) = ⟨#[111, 114]⟩) := by decide
theorem ne_12_0 : ¬ ((⟨#[106, 111, 105, 110]⟩ : ByteArray) = ⟨#[43]⟩) := by decide
theorem ne_12_1 : ¬ ((⟨#[106, 111, 105, 110]⟩ : ByteArray) = ⟨#[45]⟩) := by decide
theorem ne_12_2 : ¬ ((⟨#[106, 111, 105, 110]⟩ : ByteArray) = ⟨#[42]⟩) := by decide
theorem ne_12_3 : ¬ ((⟨#[106, 111, 105, 110]⟩ : ByteArray) = ⟨#[47]⟩) := by decide
theorem ne_12_4 : ¬ ((⟨#[106, 111, 105, 110]⟩ : ByteArray) = ⟨#[37]⟩) := by decide
theorem ne_12_5 : ¬ ((⟨#[106, 111, 105, 110]⟩ : ByteArray) = ⟨#[60]⟩) := by decide
theorem ne_12_6 : ¬ ((⟨#[106, 111, 105, 110]⟩ : ByteArray) = ⟨#[60, 61]⟩) := by decide
theorem ne_12_7 : ¬ ((⟨#[106, 111, 105, 110]⟩ : ByteArray) = ⟨#[61]⟩) := by decide
theorem ne_12_8 : ¬ ((⟨#[106, 111, 105, 110]⟩ : ByteArray) = ⟨#[110, 111, 116]⟩) := by decide
theorem ne_12_9 : ¬ ((⟨#[106, 111, 105, 110]⟩ : ByteArray) = ⟨#[97, 116]⟩) := by decide
theorem ne_12_10 : ¬ ((⟨#[106, 111, 105, 110]⟩ : ByteArray) = ⟨#[108, 101, 110]⟩) := by decide
theorem ne_12_11 : ¬ ((⟨#[106, 111, 105, 110]⟩ : ByteArray) = ⟨#[112, 117, 116]⟩) := by decide
theorem ne_12_13 : ¬ ((⟨#[106, 111, 105, 110]⟩ : ByteArray) = ⟨#[112, 114, 105, 110, 116]⟩) := by decide
theorem ne_12_14 : ¬ ((⟨#[106, 111, 105, 110]⟩ : ByteArray) = ⟨#[97, 110, 100]⟩) := by decide
theorem ne_12_15 : ¬ ((⟨#[106, 111, 105, 110]⟩ : ByteArray) = ⟨#[111, 114]⟩) := by decide
theorem ne_13_0 : ¬ ((⟨#[112, 114, 105, 110, 116]⟩ : ByteArray) = ⟨#[43]⟩) := by decide
theorem ne_13_1 : ¬ ((⟨#[112, 114, 105, 110, 116]⟩ : ByteArray) = ⟨#[45]⟩) := by decide
theorem ne_13_2 : ¬ ((⟨#[112, 114, 105, 110, 116]⟩ : ByteArray) = ⟨#[42]⟩) := by decide
theorem ne_13_3 : ¬ ((⟨#[112, 114, 105, 110, 116]⟩ : ByteArray) = ⟨#[47]⟩) := by decide
theorem ne_13_4 : ¬ ((⟨#[112, 114, 105, 110, 116]⟩ : ByteArray) = ⟨#[37]⟩) := by decide
theorem ne_13_5 : ¬ ((⟨#[112, 114, 105, 110, 116]⟩ : ByteArray) = ⟨#[60]⟩) := by decide
theorem ne_13_6 : ¬ ((⟨#[112, 114, 105, 110, 116]⟩ : ByteArray) = ⟨#[60, 61]⟩) := by decide
theorem ne_13_7 : ¬ ((⟨#[112, 114, 105, 110, 116]⟩ : ByteArray) = ⟨#[61]⟩) := by decide
theorem ne_13_8 : ¬ ((⟨#[112, 114, 105, 110, 116]⟩ : ByteArray) = ⟨#[110, 111, 116]⟩) := by decide
theorem ne_13_9 : ¬ ((⟨#[112, 114, 105, 110, 116]⟩ : ByteArray) = ⟨#[97, 116]⟩) := by decide
theorem ne_13_10 : ¬ ((⟨#[112, 114, 105, 110, 116]⟩ : ByteArray) = ⟨#[108, 101, 110]⟩) := by decide
theorem ne_13_11 : ¬ ((⟨#[112, 114, 105, 110, 116]⟩ : ByteArray) = ⟨#[112, 117, 116]⟩) := by decide
theorem ne_13_12 : ¬ ((⟨#[112, 114, 105, 110, 116]⟩ : ByteArray) = ⟨#[106, 111, 105, 110]⟩) := by decide
theorem ne_13_14 : ¬ ((⟨#[112, 114, 105, 110, 116]⟩ : ByteArray) = ⟨#[97, 110, 100]⟩) := by decide
theorem ne_13_15 : ¬ ((⟨#[112, 114, 105, 110, 116]⟩ : ByteArray) = ⟨#[111, 114]⟩) := by decide
theorem w125_0 : PureV C 125 [.s (.string (primW 0))] (primRes 0) := by
  refine pure_of_run Tryz.func125 rfl (by kernel_rfl) (by kernel_rfl) (by simp) (fun _ => rfl) (fun _ => rfl) 6 1000 ?_
  simp +contextual (maxSteps := 2000000) (disch := ((try unfold LIM at *); omega)) only [↓bcT, ↓bcF, WA, simprocAttr, wrI, primW, primRes, primT, iV, List.replicate, ne_0_1, ne_0_2, ne_0_3, ne_0_4, ne_0_5, ne_0_6, ne_0_7, ne_0_8, ne_0_9, ne_0_10, ne_0_11, ne_0_12, ne_0_13, ne_0_14, ne_0_15]
theorem w125_1 : PureV C 125 [.s (.string (primW 1))] (primRes 1) := by
  refine pure_of_run Tryz.func125 rfl (by kernel_rfl) (by kernel_rfl) (by simp) (fun _ => rfl) (fun _ => rfl) 6 1000 ?_
  simp +contextual (maxSteps := 2000000) (disch := ((try unfold LIM at *); omega)) only [↓bcT, ↓bcF, WA, simprocAttr, wrI, primW, primRes, primT, iV, List.replicate, ne_1_0, ne_1_2, ne_1_3, ne_1_4, ne_1_5, ne_1_6, ne_1_7, ne_1_8, ne_1_9, ne_1_10, ne_1_11, ne_1_12, ne_1_13, ne_1_14, ne_1_15]
theorem w125_2 : PureV C 125 [.s (.string (primW 2))] (primRes 2) := by
  refine pure_of_run Tryz.func125 rfl (by kernel_rfl) (by kernel_rfl) (by simp) (fun _ => rfl) (fun _ => rfl) 6 1000 ?_
  simp +contextual (maxSteps := 2000000) (disch := ((try unfold LIM at *); omega)) only [↓bcT, ↓bcF, WA, simprocAttr, wrI, primW, primRes, primT, iV, List.replicate, ne_2_0, ne_2_1, ne_2_3, ne_2_4, ne_2_5, ne_2_6, ne_2_7, ne_2_8, ne_2_9, ne_2_10, ne_2_11, ne_2_12, ne_2_13, ne_2_14, ne_2_15]
theorem w125_3 : PureV C 125 [.s (.string (primW 3))] (primRes 3) := by
  refine pure_of_run Tryz.func125 rfl (by kernel_rfl) (by kernel_rfl) (by simp) (fun _ => rfl) (fun _ => rfl) 6 1000 ?_
  simp +contextual (maxSteps := 2000000) (disch := ((try unfold LIM at *); omega)) only [↓bcT, ↓bcF, WA, simprocAttr, wrI, primW, primRes, primT, iV, List.replicate, ne_3_0, ne_3_1, ne_3_2, ne_3_4, ne_3_5, ne_3_6, ne_3_7, ne_3_8, ne_3_9, ne_3_10, ne_3_11, ne_3_12, ne_3_13, ne_3_14, ne_3_15]
theorem w125_4 : PureV C 125 [.s (.string (primW 4))] (primRes 4) := by
  refine pure_of_run Tryz.func125 rfl (by kernel_rfl) (by kernel_rfl) (by simp) (fun _ => rfl) (fun _ => rfl) 6 1000 ?_
  simp +contextual (maxSteps := 2000000) (disch := ((try unfold LIM at *); omega)) only [↓bcT, ↓bcF, WA, simprocAttr, wrI, primW, primRes, primT, iV, List.replicate, ne_4_0, ne_4_1, ne_4_2, ne_4_3, ne_4_5, ne_4_6, ne_4_7, ne_4_8, ne_4_9, ne_4_10, ne_4_11, ne_4_12, ne_4_13, ne_4_14, ne_4_15]
theorem w125_5 : PureV C 125 [.s (.string (primW 5))] (primRes 5) := by
  refine pure_of_run Tryz.func125 rfl (by kernel_rfl) (by kernel_rfl) (by simp) (fun _ => rfl) (fun _ => rfl) 6 1000 ?_
  simp +contextual (maxSteps := 2000000) (disch := ((try unfold LIM at *); omega)) only [↓bcT, ↓bcF, WA, simprocAttr, wrI, primW, primRes, primT, iV, List.replicate, ne_5_0, ne_5_1, ne_5_2, ne_5_3, ne_5_4, ne_5_6, ne_5_7, ne_5_8, ne_5_9, ne_5_10, ne_5_11, ne_5_12, ne_5_13, ne_5_14, ne_5_15]
theorem w125_6 : PureV C 125 [.s (.string (primW 6))] (primRes 6) := by
  refine pure_of_run Tryz.func125 rfl (by kernel_rfl) (by kernel_rfl) (by simp) (fun _ => rfl) (fun _ => rfl) 6 1000 ?_
  simp +contextual (maxSteps := 2000000) (disch := ((try unfold LIM at *); omega)) only [↓bcT, ↓bcF, WA, simprocAttr, wrI, primW, primRes, primT, iV, List.replicate, ne_6_0, ne_6_1, ne_6_2, ne_6_3, ne_6_4, ne_6_5, ne_6_7, ne_6_8, ne_6_9, ne_6_10, ne_6_11, ne_6_12, ne_6_13, ne_6_14, ne_6_15]
theorem w125_7 : PureV C 125 [.s (.string (primW 7))] (primRes 7) := by
  refine pure_of_run Tryz.func125 rfl (by kernel_rfl) (by kernel_rfl) (by simp) (fun _ => rfl) (fun _ => rfl) 6 1000 ?_
  simp +contextual (maxSteps := 2000000) (disch := ((try unfold LIM at *); omega)) only [↓bcT, ↓bcF, WA, simprocAttr, wrI, primW, primRes, primT, iV, List.replicate, ne_7_0, ne_7_1, ne_7_2, ne_7_3, ne_7_4, ne_7_5, ne_7_6, ne_7_8, ne_7_9, ne_7_10, ne_7_11, ne_7_12, ne_7_13, ne_7_14, ne_7_15]
theorem w125_8 : PureV C 125 [.s (.string (primW 8))] (primRes 8) := by
  refine pure_of_run Tryz.func125 rfl (by kernel_rfl) (by kernel_rfl) (by simp) (fun _ => rfl) (fun _ => rfl) 6 1000 ?_
  simp +contextual (maxSteps := 2000000) (disch := ((try unfold LIM at *); omega)) only [↓bcT, ↓bcF, WA, simprocAttr, wrI, primW, primRes, primT, iV, List.replicate, ne_8_0, ne_8_1, ne_8_2, ne_8_3, ne_8_4, ne_8_5, ne_8_6, ne_8_7, ne_8_9, ne_8_10, ne_8_11, ne_8_12, ne_8_13, ne_8_14, ne_8_15]
theorem w125_9 : PureV C 125 [.s (.string (primW 9))] (primRes 9) := by
  refine pure_of_run Tryz.func125 rfl (by kernel_rfl) (by kernel_rfl) (by simp) (fun _ => rfl) (fun _ => rfl) 6 1000 ?_
  simp +contextual (maxSteps := 2000000) (disch := ((try unfold LIM at *); omega)) only [↓bcT, ↓bcF, WA, simprocAttr, wrI, primW, primRes, primT, iV, List.replicate, ne_9_0, ne_9_1, ne_9_2, ne_9_3, ne_9_4, ne_9_5, ne_9_6, ne_9_7, ne_9_8, ne_9_10, ne_9_11, ne_9_12, ne_9_13, ne_9_14, ne_9_15]
theorem w125_10 : PureV C 125 [.s (.string (primW 10))] (primRes 10) := by
  refine pure_of_run Tryz.func125 rfl (by kernel_rfl) (by kernel_rfl) (by simp) (fun _ => rfl) (fun _ => rfl) 6 1000 ?_
  simp +contextual (maxSteps := 2000000) (disch := ((try unfold LIM at *); omega)) only [↓bcT, ↓bcF, WA, simprocAttr, wrI, primW, primRes, primT, iV, List.replicate, ne_10_0, ne_10_1, ne_10_2, ne_10_3, ne_10_4, ne_10_5, ne_10_6, ne_10_7, ne_10_8, ne_10_9, ne_10_11, ne_10_12, ne_10_13, ne_10_14, ne_10_15]
theorem w125_11 : PureV C 125 [.s (.string (primW 11))] (primRes 11) := by
  refine pure_of_run Tryz.func125 rfl (by kernel_rfl) (by kernel_rfl) (by simp) (fun _ => rfl) (fun _ => rfl) 6 1000 ?_
  simp +contextual (maxSteps := 2000000) (disch := ((try unfold LIM at *); omega)) only [↓bcT, ↓bcF, WA, simprocAttr, wrI, primW, primRes, primT, iV, List.replicate, ne_11_0, ne_11_1, ne_11_2, ne_11_3, ne_11_4, ne_11_5, ne_11_6, ne_11_7, ne_11_8, ne_11_9, ne_11_10, ne_11_12, ne_11_13, ne_11_14, ne_11_15]
theorem w125_12 : PureV C 125 [.s (.string (primW 12))] (primRes 12) := by
  refine pure_of_run Tryz.func125 rfl (by kernel_rfl) (by kernel_rfl) (by simp) (fun _ => rfl) (fun _ => rfl) 6 1000 ?_
  simp +contextual (maxSteps := 2000000) (disch := ((try unfold LIM at *); omega)) only [↓bcT, ↓bcF, WA, simprocAttr, wrI, primW, primRes, primT, iV, List.replicate, ne_12_0, ne_12_1, ne_12_2, ne_12_3, ne_12_4, ne_12_5, ne_12_6, ne_12_7, ne_12_8, ne_12_9, ne_12_10, ne_12_11, ne_12_13, ne_12_14, ne_12_15]
theorem w125_13 : PureV C 125 [.s (.string (primW 13))] (primRes 13) := by
  refine pure_of_run Tryz.func125 rfl (by kernel_rfl) (by kernel_rfl) (by simp) (fun _ => rfl) (fun _ => rfl) 6 1000 ?_
  simp +contextual (maxSteps := 2000000) (disch := ((try unfold LIM at *); omega)) only [↓bcT, ↓bcF, WA, simprocAttr, wrI, primW, primRes, primT, iV, List.replicate, ne_13_0, ne_13_1, ne_13_2, ne_13_3, ne_13_4, ne_13_5, ne_13_6, ne_13_7, ne_13_8, ne_13_9, ne_13_10, ne_13_11, ne_13_12, ne_13_14, ne_13_15]
theorem walk125 : ∀ (i : Nat), i < 14 → PureV C 125 [.s (.string (primW i))] (primRes i)
  | 0, _ => w125_0
  | 1, _ => w125_1
  | 2, _ => w125_2
  | 3, _ => w125_3
  | 4, _ => w125_4
  | 5, _ => w125_5
  | 6, _ => w125_6
  | 7, _ => w125_7
  | 8, _ => w125_8
  | 9, _ => w125_9
  | 10, _ => w125_10
  | 11, _ => w125_11
  | 12, _ => w125_12
  | 13, _ => w125_13
  | n + 14, h => absurd h (by omega)
end Go.Proofs.YtlhkfjannhhcbaaGreatDoor
/- part B5 -/
set_option linter.unusedVariables false
set_option linter.unusedSimpArgs false
set_option maxRecDepth 100000
namespace Go.Proofs.YtlhkfjannhhcbaaGreatDoor
open Go Go.W Go.RowKit
theorem iV_frz (n0 d : Nat) (h : H) (l : List Int) : ((l.map iV).map fun el => el.map (frz n0 d h)) = l.map iV := frz_els (nrs_map iV_nr l) (leafs_map iV_ok l)
end Go.Proofs.YtlhkfjannhhcbaaGreatDoor
/- part B6 -/
set_option linter.unusedVariables false
set_option linter.unusedSimpArgs false
set_option maxRecDepth 100000
namespace Go.Proofs.YtlhkfjannhhcbaaGreatDoor
open Go Go.W Go.RowKit
theorem w156_0 : PureV C 156 [.s (.int .u64 1), .s (.int .u64 0)] (.tup [.s (.int .u64 0), .s (.int .u64 0)]) := by
  refine pure_of_run Tryz.func156 rfl (by kernel_rfl) (by kernel_rfl) (by simp) (fun _ => rfl) (fun _ => rfl) 6 1000 ?_
  simp +contextual (maxSteps := 2000000) (disch := ((try unfold LIM at *); omega)) only [↓bcT, ↓bcF, WA, simprocAttr, wrI]
  exact ⟨by decide, by decide, by decide, by decide, by decide, by kernel_rfl⟩
theorem w156_1 : PureV C 156 [.s (.int .u64 1), .s (.int .u64 1)] (.tup [.s (.int .u64 0), .s (.int .u64 1)]) := by
  refine pure_of_run Tryz.func156 rfl (by kernel_rfl) (by kernel_rfl) (by simp) (fun _ => rfl) (fun _ => rfl) 6 1000 ?_
  simp +contextual (maxSteps := 2000000) (disch := ((try unfold LIM at *); omega)) only [↓bcT, ↓bcF, WA, simprocAttr, wrI]
  exact ⟨by decide, by decide, by decide, by decide, by decide, by kernel_rfl⟩
theorem w156_2 : PureV C 156 [.s (.int .u64 1), .s (.int .u64 2)] (.tup [.s (.int .u64 0), .s (.int .u64 2)]) := by
  refine pure_of_run Tryz.func156 rfl (by kernel_rfl) (by kernel_rfl) (by simp) (fun _ => rfl) (fun _ => rfl) 6 1000 ?_
  simp +contextual (maxSteps := 2000000) (disch := ((try unfold LIM at *); omega)) only [↓bcT, ↓bcF, WA, simprocAttr, wrI]
  exact ⟨by decide, by decide, by decide, by decide, by decide, by kernel_rfl⟩
theorem w156_3 : PureV C 156 [.s (.int .u64 1), .s (.int .u64 3)] (.tup [.s (.int .u64 0), .s (.int .u64 3)]) := by
  refine pure_of_run Tryz.func156 rfl (by kernel_rfl) (by kernel_rfl) (by simp) (fun _ => rfl) (fun _ => rfl) 6 1000 ?_
  simp +contextual (maxSteps := 2000000) (disch := ((try unfold LIM at *); omega)) only [↓bcT, ↓bcF, WA, simprocAttr, wrI]
  exact ⟨by decide, by decide, by decide, by decide, by decide, by kernel_rfl⟩
theorem w156_4 : PureV C 156 [.s (.int .u64 1), .s (.int .u64 4)] (.tup [.s (.int .u64 0), .s (.int .u64 4)]) := by
  refine pure_of_run Tryz.func156 rfl (by kernel_rfl) (by kernel_rfl) (by simp) (fun _ => rfl) (fun _ => rfl) 6 1000 ?_
  simp +contextual (maxSteps := 2000000) (disch := ((try unfold LIM at *); omega)) only [↓bcT, ↓bcF, WA, simprocAttr, wrI]
  exact ⟨by decide, by decide, by decide, by decide, by decide, by kernel_rfl⟩
theorem w156_5 : PureV C 156 [.s (.int .u64 1), .s (.int .u64 5)] (.tup [.s (.int .u64 0), .s (.int .u64 5)]) := by
  refine pure_of_run Tryz.func156 rfl (by kernel_rfl) (by kernel_rfl) (by simp) (fun _ => rfl) (fun _ => rfl) 6 1000 ?_
  simp +contextual (maxSteps := 2000000) (disch := ((try unfold LIM at *); omega)) only [↓bcT, ↓bcF, WA, simprocAttr, wrI]
  exact ⟨by decide, by decide, by decide, by decide, by decide, by kernel_rfl⟩
theorem w156_6 : PureV C 156 [.s (.int .u64 1), .s (.int .u64 6)] (.tup [.s (.int .u64 0), .s (.int .u64 6)]) := by
  refine pure_of_run Tryz.func156 rfl (by kernel_rfl) (by kernel_rfl) (by simp) (fun _ => rfl) (fun _ => rfl) 6 1000 ?_
  simp +contextual (maxSteps := 2000000) (disch := ((try unfold LIM at *); omega)) only [↓bcT, ↓bcF, WA, simprocAttr, wrI]
  exact ⟨by decide, by decide, by decide, by decide, by decide, by kernel_rfl⟩
theorem w156_7 : PureV C 156 [.s (.int .u64 1), .s (.int .u64 7)] (.tup [.s (.int .u64 0), .s (.int .u64 7)]) := by
  refine pure_of_run Tryz.func156 rfl (by kernel_rfl) (by kernel_rfl) (by simp) (fun _ => rfl) (fun _ => rfl) 6 1000 ?_
  simp +contextual (maxSteps := 2000000) (disch := ((try unfold LIM at *); omega)) only [↓bcT, ↓bcF, WA, simprocAttr, wrI]
  exact ⟨by decide, by decide, by decide, by decide, by decide, by kernel_rfl⟩
theorem w156_8 : PureV C 156 [.s (.int .u64 1), .s (.int .u64 8)] (.tup [.s (.int .u64 0), .s (.int .u64 8)]) := by
  refine pure_of_run Tryz.func156 rfl (by kernel_rfl) (by kernel_rfl) (by simp) (fun _ => rfl) (fun _ => rfl) 6 1000 ?_
  simp +contextual (maxSteps := 2000000) (disch := ((try unfold LIM at *); omega)) only [↓bcT, ↓bcF, WA, simprocAttr, wrI]
  exact ⟨by decide, by decide, by decide, by decide, by decide, by kernel_rfl⟩
theorem w156_9 : PureV C 156 [.s (.int .u64 1), .s (.int .u64 9)] (.tup [.s (.int .u64 0), .s (.int .u64 9)]) := by
  refine pure_of_run Tryz.func156 rfl (by kernel_rfl) (by kernel_rfl) (by simp) (fun _ => rfl) (fun _ => rfl) 6 1000 ?_
  simp +contextual (maxSteps := 2000000) (disch := ((try unfold LIM at *); omega)) only [↓bcT, ↓bcF, WA, simprocAttr, wrI]
  exact ⟨by decide, by decide, by decide, by decide, by decide, by kernel_rfl⟩
theorem w156_10 : PureV C 156 [.s (.int .u64 1), .s (.int .u64 10)] (.tup [.s (.int .u64 0), .s (.int .u64 10)]) := by
  refine pure_of_run Tryz.func156 rfl (by kernel_rfl) (by kernel_rfl) (by simp) (fun _ => rfl) (fun _ => rfl) 6 1000 ?_
  simp +contextual (maxSteps := 2000000) (disch := ((try unfold LIM at *); omega)) only [↓bcT, ↓bcF, WA, simprocAttr, wrI]
  exact ⟨by decide, by decide, by decide, by decide, by decide, by kernel_rfl⟩
theorem w156_11 : PureV C 156 [.s (.int .u64 1), .s (.int .u64 11)] (.tup [.s (.int .u64 0), .s (.int .u64 11)]) := by
  refine pure_of_run Tryz.func156 rfl (by kernel_rfl) (by kernel_rfl) (by simp) (fun _ => rfl) (fun _ => rfl) 6 1000 ?_
  simp +contextual (maxSteps := 2000000) (disch := ((try unfold LIM at *); omega)) only [↓bcT, ↓bcF, WA, simprocAttr, wrI]
  exact ⟨by decide, by decide, by decide, by decide, by decide, by kernel_rfl⟩
theorem w156_12 : PureV C 156 [.s (.int .u64 1), .s (.int .u64 12)] (.tup [.s (.int .u64 0), .s (.int .u64 12)]) := by
  refine pure_of_run Tryz.func156 rfl (by kernel_rfl) (by kernel_rfl) (by simp) (fun _ => rfl) (fun _ => rfl) 6 1000 ?_
  simp +contextual (maxSteps := 2000000) (disch := ((try unfold LIM at *); omega)) only [↓bcT, ↓bcF, WA, simprocAttr, wrI]
  exact ⟨by decide, by decide, by decide, by decide, by decide, by kernel_rfl⟩
theorem w156_13 : PureV C 156 [.s (.int .u64 1), .s (.int .u64 13)] (.tup [.s (.int .u64 0), .s (.int .u64 13)]) := by
  refine pure_of_run Tryz.func156 rfl (by kernel_rfl) (by kernel_rfl) (by simp) (fun _ => rfl) (fun _ => rfl) 6 1000 ?_
  simp +contextual (maxSteps := 2000000) (disch := ((try unfold LIM at *); omega)) only [↓bcT, ↓bcF, WA, simprocAttr, wrI]
  exact ⟨by decide, by decide, by decide, by decide, by decide, by kernel_rfl⟩
theorem w156_14 : PureV C 156 [.s (.int .u64 1), .s (.int .u64 14)] (.tup [.s (.int .u64 0), .s (.int .u64 14)]) := by
  refine pure_of_run Tryz.func156 rfl (by kernel_rfl) (by kernel_rfl) (by simp) (fun _ => rfl) (fun _ => rfl) 6 1000 ?_
  simp +contextual (maxSteps := 2000000) (disch := ((try unfold LIM at *); omega)) only [↓bcT, ↓bcF, WA, simprocAttr, wrI]
  exact ⟨by decide, by decide, by decide, by decide, by decide, by kernel_rfl⟩
theorem w156_15 : PureV C 156 [.s (.int .u64 1), .s (.int .u64 15)] (.tup [.s (.int .u64 0), .s (.int .u64 15)]) := by
  refine pure_of_run Tryz.func156 rfl (by kernel_rfl) (by kernel_rfl) (by simp) (fun _ => rfl) (fun _ => rfl) 6 1000 ?_
  simp +contextual (maxSteps := 2000000) (disch := ((try unfold LIM at *); omega)) only [↓bcT, ↓bcF, WA, simprocAttr, wrI]
  exact ⟨by decide, by decide, by decide, by decide, by decide, by kernel_rfl⟩
theorem w156_16 : PureV C 156 [.s (.int .u64 1), .s (.int .u64 16)] (.tup [.s (.int .u64 0), .s (.int .u64 16)]) := by
  refine pure_of_run Tryz.func156 rfl (by kernel_rfl) (by kernel_rfl) (by simp) (fun _ => rfl) (fun _ => rfl) 6 1000 ?_
  simp +contextual (maxSteps := 2000000) (disch := ((try unfold LIM at *); omega)) only [↓bcT, ↓bcF, WA, simprocAttr, wrI]
  exact ⟨by decide, by decide, by decide, by decide, by decide, by kernel_rfl⟩
theorem walk156 : ∀ (n : Nat), n < 17 → PureV C 156 [.s (.int .u64 1), .s (.int .u64 n)] (.tup [.s (.int .u64 0), .s (.int .u64 n)])
  | 0, _ => w156_0
  | 1, _ => w156_1
  | 2, _ => w156_2
  | 3, _ => w156_3
  | 4, _ => w156_4
  | 5, _ => w156_5
  | 6, _ => w156_6
  | 7, _ => w156_7
  | 8, _ => w156_8
  | 9, _ => w156_9
  | 10, _ => w156_10
  | 11, _ => w156_11
  | 12, _ => w156_12
  | 13, _ => w156_13
  | 14, _ => w156_14
  | 15, _ => w156_15
  | 16, _ => w156_16
  | n + 17, h => absurd h (by omega)
theorem walk128 (n : Nat) (h : n < 17) : PureV C 128 [.s (.int .u64 1), .s (.int .u64 n)] (.tup [.s (.int .u64 0), .s (.int .u64 n)]) := by
  refine pure_of_run Tryz.func128 rfl (by kernel_rfl) (by kernel_rfl) (by simp) (fun _ => rfl) (fun _ => rfl) 6 1000 ?_
  simp +contextual (maxSteps := 2000000) (disch := ((try unfold LIM at *); omega)) only [↓bcT, ↓bcF, WA, simprocAttr, wrI]
  refine CallThen.pure (walk156 n h) 1000 ?_
  simp +contextual (maxSteps := 2000000) (disch := ((try unfold LIM at *); omega)) only [↓bcT, ↓bcF, WA, simprocAttr, wrI]
theorem wrap_u64 {a : Int} (h1 : 0 ≤ a) (h2 : a ≤ 9223372036854775807) : IntKind.u64.wrap a = a := by
  unfold IntKind.wrap
  exact Int.emod_eq_of_lt (by omega) (by simp [IntKind.bits]; omega)
def rep01 (n i : Nat) : List (List V) := List.replicate i [V.s (.int .i64 1)] ++ List.replicate (n - i) [V.s (.int .i64 0)]
theorem rep01_len {n i : Nat} (h : i ≤ n) : (rep01 n i).length = n := by simp [rep01]; omega
theorem rep_leafs (k : Nat) (v : Int) : leafs (List.replicate k [V.s (.int .i64 v)]) = true := List.all_eq_true.2 fun el h => by rw [List.eq_of_mem_replicate h]; rfl
theorem rep_nrs (k : Nat) (v : Int) : nrs (List.replicate k [V.s (.int .i64 v)]) = true := List.all_eq_true.2 fun el h => by rw [List.eq_of_mem_replicate h]; rfl
theorem rep01_leafs (n i : Nat) : leafs (rep01 n i) = true := by
  have h1 := rep_leafs i 1
  have h2 := rep_leafs (n - i) 0
  unfold leafs at h1 h2 ⊢
  rw [rep01, List.all_append, h1, h2]; rfl
theorem rep1_leafs (k : Nat) : leafs (List.replicate k [V.s (.int .i64 1)]) = true := rep_leafs k 1
theorem rep01_nrs (n i : Nat) : nrs (rep01 n i) = true := by
  have h1 := rep_nrs i 1
  have h2 := rep_nrs (n - i) 0
  unfold nrs at h1 h2 ⊢
  rw [rep01, List.all_append, h1, h2]; rfl
theorem rep01_take {n i k : Nat} (h : k ≤ i) : (rep01 n i).take k = List.replicate k [V.s (.int .i64 1)] := by
  unfold rep01
  rw [List.take_append_of_le_length (by simp; omega), List.take_replicate, Nat.min_eq_left h]
theorem rep01_put {n i k : Nat} (h : i + k ≤ n) : putAt (rep01 n i) i (List.replicate k [V.s (.int .i64 1)]) = rep01 n (i + k) := by
  unfold putAt
  rw [rep01_take (Nat.le_refl i), List.length_replicate]
  unfold rep01
  rw [List.drop_append, List.drop_eq_nil_of_le (by simp), List.nil_append, List.length_replicate, Nat.add_sub_cancel_left, List.drop_replicate, List.replicate_append_replicate, Nat.sub_sub]
theorem rep01_zero (n : Nat) : rep01 n 0 = List.replicate n [V.s (.int .i64 0)] := by simp [rep01]
theorem rep01_all (n : Nat) : rep01 n n = List.replicate n [V.s (.int .i64 1)] := by simp [rep01]
theorem pure106 (n : Nat) (hn : n < 17) : PureV C 106 [.f 1 [iV 1], .s (.int .i64 n)] (.f 1 (List.replicate n [V.s (.int .i64 1)])) := by
  refine pure_of_run Tryz.func106 rfl (by kernel_rfl) (by kernel_rfl) (by simp) (fun _ => rfl) (fun _ => rfl) 6 1000 ?_
  have c1 : ¬ (n : Int) < 0 := by omega
  have e1 : IntKind.u64.wrap (n : Int) = n := wrap_u64 (by omega) (by omega)
  have e0 : IntKind.u64.wrap 1 = 1 := rfl
  simp +contextual (maxSteps := 2000000) (disch := ((try unfold LIM at *); omega)) only [↓bcT, ↓bcF, WA, simprocAttr, wrI, c1, e1, e0, iV]
  intro _
  refine CallThen.pure (walk128 n hn) 1000 ?_
  have c2 : ¬ (9223372036854775807 : Int) < n := by omega
  have hm : Nat.min 1 n ≤ n := Nat.min_le_right 1 n
  have b1 : (0 : Int) ≤ n := by omega
  have b2 : (8 : Int) * n ≤ 140737488355328 := by omega
  have b3 : (n : Int) ≤ 4611686018427387904 := by omega
  simp +contextual (maxSteps := 2000000) (disch := ((try unfold LIM at *); omega)) only [↓bcT, ↓bcF, WA, simprocAttr, wrI, c2, b1, b2, b3, Int.le_refl]
  rw [← rep01_zero]
  refine CopyThen.of 1000 (CopyV.own (b := 0) (e := 3) (n := 1) (cap := n) (m := 1) (k := Nat.min 1 n) (els := rep01 n 0) (news := [[V.s (.int .i64 1)]].take (Nat.min 1 n)) (by simp only [ty23]) (by simp only [ty3]) ?_ (Src.f ?_ rfl) rfl ?_ ?_ (rep01_leafs _ _) ?_ ?_ ?_ ?_) ?_
  · rfl
  · exact Nat.min_le_left 1 n
  · rw [List.length_take]; exact Nat.min_eq_left (Nat.min_le_left 1 n)
  · intro el he
    have := List.mem_of_mem_take he
    simp at this; subst this; rfl
  · exact leafs_take rfl _
  · omega
  · omega
  · unfold LIM; omega
  rintro v h' ⟨rfl, rfl⟩
  have e3 : [[V.s (.int .i64 1)]].take (Nat.min 1 n) = List.replicate (Nat.min 1 n) [V.s (.int .i64 1)] := by
    have : [[V.s (.int .i64 1)]] = List.replicate 1 [V.s (.int .i64 1)] := rfl
    rw [this, List.take_replicate, Nat.min_eq_left (Nat.min_le_left 1 n)]
  rw [e3, rep01_put (by omega), Nat.zero_add]
  simp +contextual (maxSteps := 2000000) (disch := ((try unfold LIM at *); omega)) only [↓bcT, ↓bcF, WA, simprocAttr, wrI]
  refine LoopThen.own (ι := Nat) (fun i => i ≤ n ∧ (0 < n → 0 < i)) (fun i => [(7, .sl 0 0 n n), (8, .s (.int .i64 i))]) (fun i => [⟨rep01 n i, 1, n, true⟩]) (fun i => n - i) 1000 1000
    ⟨Nat.min 1 n, ⟨Nat.min_le_right 1 n, fun h => Nat.lt_min.2 ⟨Nat.one_pos, h⟩⟩, [0], by simp, ⟨.inl ⟨rep01_nrs _ _, rfl⟩, trivial⟩, by simp +contextual (maxSteps := 2000000) (disch := ((try unfold LIM at *); omega)) only [↓bcT, ↓bcF, WA, simprocAttr, wrI, nm_at]⟩ ?_
  rintro i ⟨p1, p2⟩
  by_cases c4 : (i : Int) < n
  · have hi : 0 < i := p2 (by omega)
    simp +contextual (maxSteps := 2000000) (disch := ((try unfold LIM at *); omega)) only [↓bcT, ↓bcF, WA, simprocAttr, wrI, c4]
    refine DrawThen.of 1000 [0] (.old 0 (.old 1 (.old 2 (.old 3 (.old 4 (.old 5 (.old 6 (.go 7 (.new 8 (.new 9 .done)))))))))) (panFree_loopO (panFree_pure _ _ _)) (by kernel_rfl) (by kernel_rfl) (by kernel_rfl) ?_
    have s1 : (0 : Int) ≤ i ∧ (i : Int) ≤ n ∧ (0 : Int) ≤ 0 := by omega
    simp +contextual (maxSteps := 2000000) (disch := ((try unfold LIM at *); omega)) only [↓bcT, ↓bcF, WA, simprocAttr, wrI, s1, c4, Nat.zero_add]
    have hk1 : Nat.min i (n - i) ≤ i := Nat.min_le_left i (n - i)
    have hk2 : Nat.min i (n - i) ≤ n - i := Nat.min_le_right i (n - i)
    have hk3 : 0 < Nat.min i (n - i) := Nat.lt_min.2 ⟨hi, by omega⟩
    have hlen := rep01_len (n := n) (i := i) p1
    generalize hkk : Nat.min i (n - i) = k at hk1 hk2 hk3
    refine DCopy.of 1000 (.new 8 (.new 9 .done)) (by kernel_rfl) (CopyV.own (b := 0) (e := 3) (n := 1) (cap := n) (m := i) (k := k) (els := rep01 n i) (news := List.replicate k [V.s (.int .i64 1)]) (by simp only [ty23]) (by simp only [ty3]) rfl (Src.own hk1 rfl ?_ (rep1_leafs k)) hkk.symm (by simp) ?_ (rep01_leafs _ _) (rep1_leafs k) ?_ ?_ ?_) ?_
    · show (if 0 + k ≤ (rep01 n i).length then some (((rep01 n i).drop 0).take k) else none) = _
      rw [if_pos (by omega), List.drop_zero, rep01_take hk1]
    · intro el he
      rw [List.eq_of_mem_replicate he]; rfl
    · omega
    · omega
    · unfold LIM; omega
    rintro v h' ⟨rfl, rfl⟩
    have b4 : (-9223372036854775808 : Int) ≤ (i : Int) + k := by omega
    have b5 : (i : Int) + k ≤ 9223372036854775807 := by omega
    simp +contextual (maxSteps := 2000000) (disch := ((try unfold LIM at *); omega)) only [↓bcT, ↓bcF, WA, simprocAttr, wrI, b4, b5, rep01_put (show i + k ≤ n by omega)]
    exact ⟨i + k, ⟨⟨by omega, fun _ => by omega⟩, by omega⟩, [0], by simp, ⟨.inl ⟨rep01_nrs _ _, rfl⟩, trivial⟩, rfl, by simp +contextual (maxSteps := 2000000) (disch := ((try unfold LIM at *); omega)) only [↓bcT, ↓bcF, WA, simprocAttr, wrI, Int.natCast_add]⟩
  · have e5 : i = n := by omega
    subst e5
    simp +contextual (maxSteps := 2000000) (disch := ((try unfold LIM at *); omega)) only [↓bcT, ↓bcF, WA, simprocAttr, wrI, c4, rep01_all, List.length_replicate, Nat.le_refl, List.take_replicate, Nat.min_self, ite_true, List.map_replicate]
end Go.Proofs.YtlhkfjannhhcbaaGreatDoor
/- part B7 -/
set_option linter.unusedVariables false
set_option linter.unusedSimpArgs false
set_option maxRecDepth 100000
namespace Go.Proofs.YtlhkfjannhhcbaaGreatDoor
open Go Go.W Go.RowKit
def szs (p q : List Int) : Nat → Nat
  | 0 => 0
  | 1 => p.length
  | _ => p.length + q.length
def prt (p q : List Int) : Nat → List Int
  | 0 => []
  | 1 => p
  | _ => p ++ q
end Go.Proofs.YtlhkfjannhhcbaaGreatDoor
/- part B8 -/
set_option linter.unusedVariables false
set_option linter.unusedSimpArgs false
set_option maxRecDepth 100000
namespace Go.Proofs.YtlhkfjannhhcbaaGreatDoor
open Go Go.W Go.RowKit
theorem primCell : ∀ j : Nat, j < 14 → (([.s (.string ⟨#[43]⟩), .s (.string ⟨#[45]⟩), .s (.string ⟨#[42]⟩), .s (.string ⟨#[47]⟩), .s (.string ⟨#[37]⟩), .s (.string ⟨#[60]⟩), .s (.string ⟨#[60, 61]⟩), .s (.string ⟨#[61]⟩), .s (.string ⟨#[110, 111, 116]⟩), .s (.string ⟨#[97, 116]⟩), .s (.string ⟨#[108, 101, 110]⟩), .s (.string ⟨#[112, 117, 116]⟩), .s (.string ⟨#[106, 111, 105, 110]⟩), .s (.string ⟨#[112, 114, 105, 110, 116]⟩)] : List V).drop j)[0]? = some (.s (.string (primW j)))
  | 0, _ => rfl
  | 1, _ => rfl
  | 2, _ => rfl
  | 3, _ => rfl
  | 4, _ => rfl
  | 5, _ => rfl
  | 6, _ => rfl
  | 7, _ => rfl
  | 8, _ => rfl
  | 9, _ => rfl
  | 10, _ => rfl
  | 11, _ => rfl
  | 12, _ => rfl
  | 13, _ => rfl
  | n + 14, h => absurd h (by omega)
theorem rnB_iV (ρ : Nat → Nat) (l : List Int) (c : Nat) : rnB ρ ⟨l.map iV, 1, c, true⟩ = ⟨l.map iV, 1, c, true⟩ := nrs_rn _ (nrs_map iV_nr l)
end Go.Proofs.YtlhkfjannhhcbaaGreatDoor
/- part B9 -/
set_option linter.unusedVariables false
set_option linter.unusedSimpArgs false
set_option maxRecDepth 100000
namespace Go.Proofs.YtlhkfjannhhcbaaGreatDoor
open Go Go.W Go.RowKit
theorem okF_facts {f : IFun} (h : okF f = true) : typB f.typ = true ∧ 0 ≤ f.slots ∧ f.slots ≤ 1000 ∧ f.code.length ≤ 460 ∧ f.args.length ≤ 4 ∧ f.code.all insB = true := by
  simp only [okF, headB, rangeB, Bool.and_eq_true, decide_eq_true_eq] at h
  exact ⟨h.1.1.2.1.2, h.1.1.2.2.1, h.1.1.2.2.2, h.1.2, h.1.1.2.1.1.2.1, h.2⟩
end Go.Proofs.YtlhkfjannhhcbaaGreatDoor
/- part B10 -/
set_option linter.unusedVariables false
set_option linter.unusedSimpArgs false
set_option maxRecDepth 100000
namespace Go.Proofs.YtlhkfjannhhcbaaGreatDoor
open Go Go.W Go.RowKit
theorem imgB_all {m : Img} (h : imgB m = true) : m.funs.all okF = true ∧ m.funs.length ≤ 72 ∧ m.mains.length ≤ 8 ∧ ∀ x ∈ m.mains, ∃ k : Nat, x = k ∧ k < m.funs.length := by
  rw [imgB_eq] at h
  simp only [tailB, Bool.and_eq_true, decide_eq_true_eq] at h
  refine ⟨h.1, h.2.1.1.1, h.2.1.1.2, fun x hx => ?_⟩
  have := List.all_eq_true.1 h.2.2 x hx
  simp only [rangeB, Bool.and_eq_true, decide_eq_true_eq] at this
  exact ⟨x.toNat, by omega, by omega⟩
end Go.Proofs.YtlhkfjannhhcbaaGreatDoor
/- part B11 -/
set_option linter.unusedVariables false
set_option linter.unusedSimpArgs false
set_option maxRecDepth 100000
namespace Go.Proofs.YtlhkfjannhhcbaaGreatDoor
open Go Go.W Go.RowKit
theorem kept_len : kept.length = 19 := rfl
theorem walk79 (s : ByteArray) : PureV C 79 [.s (.string s)] (.s (.bool (kept.any fun w => decide (w = s)))) := by
  refine pure_of_run Tryz.func79 rfl (by kernel_rfl) (by kernel_rfl) (by simp) (fun _ => rfl) (fun _ => rfl) 6 1000 ?_
  simp +contextual (maxSteps := 2000000) (disch := ((try unfold LIM at *); omega)) only [↓bcT, ↓bcF, WA, simprocAttr, wrI, List.replicate]
  refine LoopThen.own (ι := Nat) (fun i => i ≤ 19 ∧ ((kept.drop i).any fun w => decide (w = s)) = kept.any fun w => decide (w = s))
    (fun i => [(0, .s (.string s)), (3, .sl 0 0 19 19), (4, .s (.int .i64 i))]) (fun _ => [⟨kept.map sV, 1, 19, true⟩]) (fun i => 19 - i) 1000 1000
    ⟨0, ⟨Nat.zero_le _, rfl⟩, [0], by simp, by simp +contextual (maxSteps := 2000000) (disch := ((try unfold LIM at *); omega)) only [↓bcT, ↓bcF, WA, simprocAttr, wrI, kept, sV], by simp +contextual (maxSteps := 2000000) (disch := ((try unfold LIM at *); omega)) only [↓bcT, ↓bcF, WA, simprocAttr, wrI, nm_at]⟩ ?_
  rintro i ⟨p1, p4⟩
  by_cases c2 : (i : Int) < 19
  · obtain ⟨f, hf⟩ := get_lt (l := kept) (i := i) (by rw [kept_len]; omega)
    have pi : (0 : Int) ≤ i := by omega
    have c2' : (i : Int) < (kept.length : Int) := by rw [kept_len]; omega
    rw [drop_cons hf] at p4
    simp only [List.any_cons] at p4
    have hfv : (kept.map sV)[i]? = some (sV f) := by rw [List.getElem?_map, hf]; rfl
    by_cases c3 : f = s
    · have e : (kept.any fun w => decide (w = s)) = true := by rw [← p4]; simp [c3]
      simp +contextual (maxSteps := 2000000) (disch := ((try unfold LIM at *); omega)) only [↓bcT, ↓bcF, WA, simprocAttr, wrI, List.length_map, c2, c2', hfv, pi, sV, c3, e]
    · have c3' : ¬ s = f := fun e => c3 e.symm
      rw [decide_eq_false c3, Bool.false_or] at p4
      simp +contextual (maxSteps := 2000000) (disch := ((try unfold LIM at *); omega)) only [↓bcT, ↓bcF, WA, simprocAttr, wrI, List.length_map, c2, c2', hfv, pi, sV, c3, c3', cast_succ]
      exact ⟨i + 1, ⟨⟨by omega, p4⟩, by omega⟩, [0], by simp, ⟨.inl ⟨nrs_map (fun _ => rfl) _, rfl⟩, trivial⟩, rfl, rfl⟩
  · have e : i = 19 := by omega
    subst e
    rw [List.drop_of_length_le (by rw [kept_len]; omega)] at p4
    simp +contextual (maxSteps := 2000000) (disch := ((try unfold LIM at *); omega)) only [↓bcT, ↓bcF, WA, simprocAttr, wrI, c2, ← p4, List.any_nil]
theorem walk56 (s : ByteArray) : PureV C 56 [.s (.string s)] (.s (.bool (nameB s))) := by
  refine pure_of_run Tryz.func56 rfl (by kernel_rfl) (by kernel_rfl) (by simp) (fun _ => rfl) (fun _ => rfl) 6 1000 ?_
  have case_l : ∀ {Q : QT}, True := fun {Q} => trivial
  by_cases c1 : (s.size : Int) < 1
  · have e : nameB s = false := by
      have : ¬ 1 ≤ s.size := by omega
      simp [nameB, this]
    simp +contextual (maxSteps := 2000000) (disch := ((try unfold LIM at *); omega)) only [↓bcT, ↓bcF, WA, simprocAttr, wrI, c1, e]
  by_cases c2 : (8 : Int) < s.size
  · have e : nameB s = false := by
      have : ¬ s.size ≤ 8 := by omega
      simp [nameB, this]
    simp +contextual (maxSteps := 2000000) (disch := ((try unfold LIM at *); omega)) only [↓bcT, ↓bcF, WA, simprocAttr, wrI, c1, c2, e]
  simp +contextual (maxSteps := 2000000) (disch := ((try unfold LIM at *); omega)) only [↓bcT, ↓bcF, WA, simprocAttr, wrI, c1, c2]
  intro hl
  refine CallThen.pure (walk79 s) 1000 ?_
  cases c3 : kept.any fun w => decide (w = s)
  · have e : nameB s = s.data.toList.all low := by
      have h1 : 1 ≤ s.size := by omega
      have h2 : s.size ≤ 8 := by omega
      simp [nameB, h1, h2, c3]
    simp +contextual (maxSteps := 2000000) (disch := ((try unfold LIM at *); omega)) only [↓bcT, ↓bcF, WA, simprocAttr, wrI, c3, e]
    refine LoopThen.pure (ι := Nat) (fun i => i ≤ s.size ∧ (s.data.toList.drop i).all low = s.data.toList.all low) (fun i => keepL [(0, .s (.string s)), (3, .s (.int .i64 i))]) (fun i => s.size - i)
      6 [0, 3] 1000 1000 ⟨0, ⟨by omega, rfl⟩, by simp +contextual (maxSteps := 2000000) (disch := ((try unfold LIM at *); omega)) only [↓bcT, ↓bcF, WA, simprocAttr, wrI]⟩ ?_
    rintro i ⟨p1, p4⟩
    by_cases c2 : (i : Int) < s.size
    · have hlt : i < s.size := by omega
      have hb : s[i]? = some s[i] := getElem?_pos s i hlt
      have hb' : s.data.toList[i]? = some s[i] := by
        simp only [ByteArray.size] at hlt
        rw [Array.getElem?_toList, Array.getElem?_eq_getElem hlt]; rfl
      have pi : (0 : Int) ≤ i := by omega
      rw [drop_cons hb'] at p4
      simp only [List.all_cons] at p4
      generalize s[i] = c at *
      cases c3 : low c
      · rw [c3, Bool.false_and] at p4
        simp only [low, Bool.and_eq_false_iff, decide_eq_false_iff_not] at c3
        by_cases c4 : (c.toNat : Int) < 97
        · simp +contextual (maxSteps := 2000000) (disch := ((try unfold LIM at *); omega)) only [↓bcT, ↓bcF, WA, simprocAttr, wrI, c2, hb, pi, c4, ← p4]
        · have c5 : (122 : Int) < c.toNat := by omega
          simp +contextual (maxSteps := 2000000) (disch := ((try unfold LIM at *); omega)) only [↓bcT, ↓bcF, WA, simprocAttr, wrI, c2, hb, pi, c4, c5, ← p4]
      · rw [c3, Bool.true_and] at p4
        obtain ⟨c4, c5⟩ := low_true c3
        simp +contextual (maxSteps := 2000000) (disch := ((try unfold LIM at *); omega)) only [↓bcT, ↓bcF, WA, simprocAttr, wrI, c2, hb, pi, c4, c5, cast_succ]
        exact fun _ => ⟨i + 1, ⟨⟨by omega, p4⟩, by omega⟩, rfl⟩
    · have e : i = s.size := by omega
      subst e
      have : s.data.toList.drop s.size = [] := List.drop_eq_nil_of_le (show s.data.toList.length ≤ s.size from Nat.le_of_eq Array.length_toList)
      rw [this] at p4
      simp only [List.all_nil] at p4
      simp +contextual (maxSteps := 2000000) (disch := ((try unfold LIM at *); omega)) only [↓bcT, ↓bcF, WA, simprocAttr, wrI, c2, ← p4]
  · have e : nameB s = false := by simp [nameB, c3]
    simp +contextual (maxSteps := 2000000) (disch := ((try unfold LIM at *); omega)) only [↓bcT, ↓bcF, WA, simprocAttr, wrI, c3, e]
theorem walk80 (s : ByteArray) : PureV C 80 [.s (.string s)] (.s (.bool (nameB s || decide (s = mainS)))) := by
  refine pure_of_run Tryz.func80 rfl (by kernel_rfl) (by kernel_rfl) (by simp) (fun _ => rfl) (fun _ => rfl) 6 1000 ?_
  simp +contextual (maxSteps := 2000000) (disch := ((try unfold LIM at *); omega)) only [↓bcT, ↓bcF, WA, simprocAttr, wrI]
  refine CallThen.pure (walk56 s) 1000 ?_
  by_cases c : s = mainS
  · subst c
    cases h : nameB mainS <;> simp +contextual (maxSteps := 2000000) (disch := ((try unfold LIM at *); omega)) only [↓bcT, ↓bcF, WA, simprocAttr, wrI, h, mainS]
  · have c' : ¬ mainS = s := fun e => c e.symm
    cases h : nameB s
    · simp +contextual (maxSteps := 2000000) (disch := ((try unfold LIM at *); omega)) only [↓bcT, ↓bcF, WA, simprocAttr, wrI, h, c, c', mainS]
      exact congrArg (fun b => V.s (Value.bool b)) (decide_eq_decide.2 Iff.rfl)
    · simp +contextual (maxSteps := 2000000) (disch := ((try unfold LIM at *); omega)) only [↓bcT, ↓bcF, WA, simprocAttr, wrI, h, c, c', mainS]
def typeS (t : Int) : ByteArray := if t = 1 then ⟨#[105, 110, 116]⟩ else if t = 2 then ⟨#[98, 111, 111, 108]⟩ else if t = 3 then ⟨#[114, 111, 119]⟩ else ⟨#[]⟩
theorem walk81 (t : Int) : PureV C 81 [.s (.int .i64 t)] (.s (.string (typeS t))) := by
  refine pure_of_run Tryz.func81 rfl (by kernel_rfl) (by kernel_rfl) (by simp) (fun _ => rfl) (fun _ => rfl) 6 1000 ?_
  by_cases c1 : t = 1
  · simp +contextual (maxSteps := 2000000) (disch := ((try unfold LIM at *); omega)) only [↓bcT, ↓bcF, WA, simprocAttr, wrI, c1, typeS, List.replicate]
  by_cases c2 : t = 2
  · simp +contextual (maxSteps := 2000000) (disch := ((try unfold LIM at *); omega)) only [↓bcT, ↓bcF, WA, simprocAttr, wrI, c2, typeS, List.replicate]
  by_cases c3 : t = 3
  · simp +contextual (maxSteps := 2000000) (disch := ((try unfold LIM at *); omega)) only [↓bcT, ↓bcF, WA, simprocAttr, wrI, c3, typeS, List.replicate]
  by_cases c4 : t < 1
  · simp +contextual (maxSteps := 2000000) (disch := ((try unfold LIM at *); omega)) only [↓bcT, ↓bcF, WA, simprocAttr, wrI, c1, c2, c3, c4, typeS]
  · have c5 : 3 < t := by omega
    simp +contextual (maxSteps := 2000000) (disch := ((try unfold LIM at *); omega)) only [↓bcT, ↓bcF, WA, simprocAttr, wrI, c1, c2, c3, c4, c5, typeS]
theorem typeS_nil (t : Int) : decide (typeS t = ⟨#[]⟩) = !typB t := by
  unfold typeS typB rangeB
  by_cases c1 : t = 1
  · subst c1; rfl
  by_cases c2 : t = 2
  · subst c2; rfl
  by_cases c3 : t = 3
  · subst c3; rfl
  rw [if_neg c1, if_neg c2, if_neg c3]
  have : (decide (1 ≤ t) && decide (t ≤ 3)) = false := by
    rw [Bool.and_eq_false_iff]; simp only [decide_eq_false_iff_not]; omega
  rw [this]; rfl
theorem walk82 (x : Ins) : PureV C 82 [.agg (insV x)] (.s (.bool (insB x))) := by
  refine pure_of_run Tryz.func82 rfl (by kernel_rfl) (by kernel_rfl) (by simp) (fun _ => rfl) (fun _ => rfl) 6 1000 ?_
  by_cases c1 : x.op = 1
  · by_cases d1 : x.a < 100000000000000000
    · by_cases d2 : -100000000000000000 < x.a
      · have e : insB x = true := by
          simp only [insB, rangeB, c1, if_true, Bool.and_eq_true, decide_eq_true_eq]; omega
        simp +contextual (maxSteps := 2000000) (disch := ((try unfold LIM at *); omega)) only [↓bcT, ↓bcF, WA, simprocAttr, wrI, insV, c1, d1, d2, e]
      · have e : insB x = false := by
          simp only [insB, rangeB, c1, if_true, Bool.and_eq_false_iff, decide_eq_false_iff_not]; omega
        simp +contextual (maxSteps := 2000000) (disch := ((try unfold LIM at *); omega)) only [↓bcT, ↓bcF, WA, simprocAttr, wrI, insV, c1, d1, d2, e]
    · have e : insB x = false := by
        simp only [insB, rangeB, c1, if_true, Bool.and_eq_false_iff, decide_eq_false_iff_not]; omega
      simp +contextual (maxSteps := 2000000) (disch := ((try unfold LIM at *); omega)) only [↓bcT, ↓bcF, WA, simprocAttr, wrI, insV, c1, d1, e]
  by_cases c2 : x.op = 2
  · by_cases d1 : x.a = 0
    · have e : insB x = true := by simp [insB, c1, c2, d1, rangeB]
      simp +contextual (maxSteps := 2000000) (disch := ((try unfold LIM at *); omega)) only [↓bcT, ↓bcF, WA, simprocAttr, wrI, insV, c2, d1, e]
    · by_cases d2 : x.a = 1
      · have e : insB x = true := by simp [insB, c1, c2, d2, rangeB]
        simp +contextual (maxSteps := 2000000) (disch := ((try unfold LIM at *); omega)) only [↓bcT, ↓bcF, WA, simprocAttr, wrI, insV, c2, d1, d2, e]
      · have e : insB x = false := by
          simp only [insB, rangeB, c1, c2, if_true, if_false, Bool.and_eq_false_iff, decide_eq_false_iff_not]
          rw [if_neg (by omega)]
          simp only [Bool.and_eq_false_iff, decide_eq_false_iff_not]; omega
        simp +contextual (maxSteps := 2000000) (disch := ((try unfold LIM at *); omega)) only [↓bcT, ↓bcF, WA, simprocAttr, wrI, insV, c2, d1, d2, e]
  by_cases c3 : x.op = 9
  · simp +contextual (maxSteps := 2000000) (disch := ((try unfold LIM at *); omega)) only [↓bcT, ↓bcF, WA, simprocAttr, wrI, insV, c3, insB]
  have e : insB x = (decide (1 ≤ x.op) && decide (x.op ≤ 10) && decide (0 ≤ x.a) && decide (x.a ≤ 1000)) := by
    simp only [insB, if_neg c1, if_neg c2, if_neg c3, rangeB, Bool.and_assoc]
  by_cases d1 : 1 ≤ x.op <;> by_cases d2 : x.op ≤ 10 <;> by_cases d3 : 0 ≤ x.a <;> by_cases d4 : x.a ≤ 1000 <;> simp +contextual (maxSteps := 2000000) (disch := ((try unfold LIM at *); omega)) only [↓bcT, ↓bcF, WA, simprocAttr, wrI, insV, c1, c2, c3, d1, d2, d3, d4, e]
def cfV (f : IFun) (p : V) : List V := [.s (.string f.name), p, .f 1 (f.args.map iV), .s (.int .i64 f.typ), .s (.int .i64 f.slots), .f 2 (f.code.map insV)]
def cfB (f : IFun) : Bool := headB f.name f.args f.typ f.slots && decide (f.code.length ≤ 460) && f.code.all insB
theorem walk57 (f : IFun) (p : V) (hp : p = .s (.bool false)) : PureV C 57 [.agg (cfV f p)] (.s (.bool (cfB f))) := by
  subst hp
  refine pure_of_run Tryz.func57 rfl (by kernel_rfl) (by kernel_rfl) (by simp) (fun _ => rfl) (fun _ => rfl) 6 1000 ?_
  simp +contextual (maxSteps := 2000000) (disch := ((try unfold LIM at *); omega)) only [↓bcT, ↓bcF, WA, simprocAttr, wrI, cfV]
  refine CallThen.pure (walk80 f.name) 1000 ?_
  cases h1 : nameB f.name || decide (f.name = mainS)
  · have e : cfB f = false := by simp [cfB, headB, h1]
    simp +contextual (maxSteps := 2000000) (disch := ((try unfold LIM at *); omega)) only [↓bcT, ↓bcF, WA, simprocAttr, wrI, h1, e]
  by_cases h2 : (4 : Int) < f.args.length
  · have e : cfB f = false := by
      have : ¬ f.args.length ≤ 4 := by omega
      simp [cfB, headB, this]
    simp +contextual (maxSteps := 2000000) (disch := ((try unfold LIM at *); omega)) only [↓bcT, ↓bcF, WA, simprocAttr, wrI, h1, e, List.length_map, h2]
  have h2' : f.args.length ≤ 4 := by omega
  simp +contextual (maxSteps := 2000000) (disch := ((try unfold LIM at *); omega)) only [↓bcT, ↓bcF, WA, simprocAttr, wrI, h1, List.length_map, h2]
  intro _
  refine CallThen.pure (walk81 f.typ) 1000 ?_
  have t1 := typeS_nil f.typ
  cases h3 : typB f.typ
  · have e : cfB f = false := by simp [cfB, headB, h3]
    rw [h3] at t1
    have t1 : typeS f.typ = ⟨#[]⟩ := by simpa using t1
    simp +contextual (maxSteps := 2000000) (disch := ((try unfold LIM at *); omega)) only [↓bcT, ↓bcF, WA, simprocAttr, wrI, t1, e, List.length_map]
  rw [h3] at t1
  have t1 : ¬ typeS f.typ = ⟨#[]⟩ := by simpa using t1
  by_cases h4 : f.slots < 0
  · have e : cfB f = false := by
      have : rangeB f.slots 0 1000 = false := by simp only [rangeB, Bool.and_eq_false_iff, decide_eq_false_iff_not]; omega
      simp [cfB, headB, this]
    simp +contextual (maxSteps := 2000000) (disch := ((try unfold LIM at *); omega)) only [↓bcT, ↓bcF, WA, simprocAttr, wrI, t1, e, List.length_map, h4]
  by_cases h5 : 1000 < f.slots
  · have e : cfB f = false := by
      have : rangeB f.slots 0 1000 = false := by simp only [rangeB, Bool.and_eq_false_iff, decide_eq_false_iff_not]; omega
      simp [cfB, headB, this]
    simp +contextual (maxSteps := 2000000) (disch := ((try unfold LIM at *); omega)) only [↓bcT, ↓bcF, WA, simprocAttr, wrI, t1, e, List.length_map, h4, h5]
  have h45 : rangeB f.slots 0 1000 = true := by simp only [rangeB, Bool.and_eq_true, decide_eq_true_eq]; omega
  by_cases h6 : (460 : Int) < f.code.length
  · have e : cfB f = false := by
      have : ¬ f.code.length ≤ 460 := by omega
      simp [cfB, this]
    simp +contextual (maxSteps := 2000000) (disch := ((try unfold LIM at *); omega)) only [↓bcT, ↓bcF, WA, simprocAttr, wrI, t1, e, List.length_map, h4, h5, h6]
  have h6' : f.code.length ≤ 460 := by omega
  have e : cfB f = (f.args.all typB && f.code.all insB) := by simp [cfB, headB, h1, h2', h3, h45, h6']
  simp +contextual (maxSteps := 2000000) (disch := ((try unfold LIM at *); omega)) only [↓bcT, ↓bcF, WA, simprocAttr, wrI, t1, List.length_map, h4, h5, h6, e]
  intro _
  refine LoopThen.own (ι := Nat) (fun i => i ≤ f.args.length ∧ (f.args.drop i).all typB = f.args.all typB)
    (fun i => [(1, .ptr 0 0 0), (3, .s (.int .i64 i))]) (fun _ => [⟨[cfV f (.s (.bool false))], 6, 1, true⟩]) (fun i => f.args.length - i) 1000 1000
    ⟨0, ⟨Nat.zero_le _, rfl⟩, [0], by simp, by simp +contextual (maxSteps := 2000000) (disch := ((try unfold LIM at *); omega)) only [↓bcT, ↓bcF, WA, simprocAttr, wrI, cfV], by simp +contextual (maxSteps := 2000000) (disch := ((try unfold LIM at *); omega)) only [↓bcT, ↓bcF, WA, simprocAttr, wrI, nm_at]⟩ ?_
  rintro i ⟨p1, p4⟩
  by_cases c2 : (i : Int) < f.args.length
  · obtain ⟨x, hx⟩ := get_lt c2
    have pi : (0 : Int) ≤ i := by omega
    rw [drop_cons hx] at p4
    simp only [List.all_cons] at p4
    have hxv : (f.args.map iV)[i]? = some (iV x) := by rw [List.getElem?_map, hx]; rfl
    simp +contextual (maxSteps := 2000000) (disch := ((try unfold LIM at *); omega)) only [↓bcT, ↓bcF, WA, simprocAttr, wrI, List.length_map, c2, hxv, pi, cfV, iV]
    intro _
    refine CallThen.pure (walk81 x) 1000 ?_
    have t2 := typeS_nil x
    cases h3 : typB x
    · rw [h3] at t2 p4
      have t2 : typeS x = ⟨#[]⟩ := by simpa using t2
      simp +contextual (maxSteps := 2000000) (disch := ((try unfold LIM at *); omega)) only [↓bcT, ↓bcF, WA, simprocAttr, wrI, t2, ← p4, Bool.false_and]
    · rw [h3] at t2 p4
      have t2 : ¬ typeS x = ⟨#[]⟩ := by simpa using t2
      rw [Bool.true_and] at p4
      simp +contextual (maxSteps := 2000000) (disch := ((try unfold LIM at *); omega)) only [↓bcT, ↓bcF, WA, simprocAttr, wrI, t2, cast_succ]
      exact ⟨i + 1, ⟨⟨by omega, p4⟩, by omega⟩, [0], by simp, ⟨.inl ⟨rfl, rfl⟩, trivial⟩, rfl, rfl⟩
  · have e : i = f.args.length := by omega
    subst e
    rw [List.drop_length] at p4
    simp +contextual (maxSteps := 2000000) (disch := ((try unfold LIM at *); omega)) only [↓bcT, ↓bcF, WA, simprocAttr, wrI, c2, cfV, List.length_map, ← p4, List.all_nil, Bool.true_and]
    intro _
    refine LoopThen.own (ι := Nat) (fun i => i ≤ f.code.length ∧ (f.code.drop i).all insB = f.code.all insB)
      (fun i => [(1, .ptr 0 0 0), (4, .s (.int .i64 i))]) (fun _ => [⟨[cfV f (.s (.bool false))], 6, 1, true⟩]) (fun i => f.code.length - i) 1000 1000
      ⟨0, ⟨Nat.zero_le _, rfl⟩, [0], by simp, by simp +contextual (maxSteps := 2000000) (disch := ((try unfold LIM at *); omega)) only [↓bcT, ↓bcF, WA, simprocAttr, wrI, cfV], by simp +contextual (maxSteps := 2000000) (disch := ((try unfold LIM at *); omega)) only [↓bcT, ↓bcF, WA, simprocAttr, wrI, nm_at]⟩ ?_
    rintro i ⟨p1, p5⟩
    by_cases c3 : (i : Int) < f.code.length
    · obtain ⟨x, hx⟩ := get_lt c3
      have pi : (0 : Int) ≤ i := by omega
      rw [drop_cons hx] at p5
      simp only [List.all_cons] at p5
      have hxv : (f.code.map insV)[i]? = some (insV x) := by rw [List.getElem?_map, hx]; rfl
      simp +contextual (maxSteps := 2000000) (disch := ((try unfold LIM at *); omega)) only [↓bcT, ↓bcF, WA, simprocAttr, wrI, List.length_map, c3, hxv, pi, cfV, insV]
      intro _
      refine CallThen.pure (walk82 x) 1000 ?_
      cases h3 : insB x
      · rw [h3] at p5
        simp +contextual (maxSteps := 2000000) (disch := ((try unfold LIM at *); omega)) only [↓bcT, ↓bcF, WA, simprocAttr, wrI, h3, ← p5, Bool.false_and]
      · rw [h3, Bool.true_and] at p5
        simp +contextual (maxSteps := 2000000) (disch := ((try unfold LIM at *); omega)) only [↓bcT, ↓bcF, WA, simprocAttr, wrI, h3, cast_succ]
        exact ⟨i + 1, ⟨⟨by omega, p5⟩, by omega⟩, [0], by simp, ⟨.inl ⟨rfl, rfl⟩, trivial⟩, rfl, rfl⟩
    · have e : i = f.code.length := by omega
      subst e
      rw [List.drop_length] at p5
      simp +contextual (maxSteps := 2000000) (disch := ((try unfold LIM at *); omega)) only [↓bcT, ↓bcF, WA, simprocAttr, wrI, c3, cfV, List.length_map, ← p5, List.all_nil]
theorem cfB_ok (f : IFun) : okF f = (nameB f.mod && cfB f) := by simp only [okF, cfB, Bool.and_assoc]
end Go.Proofs.YtlhkfjannhhcbaaGreatDoor
/- part B12 -/
set_option linter.unusedVariables false
set_option linter.unusedSimpArgs false
set_option maxRecDepth 100000
namespace Go.Proofs.YtlhkfjannhhcbaaGreatDoor
open Go Go.W Go.RowKit
theorem walk41 (m : Img) (hk : m.funs.length ≤ 1048576) (hm : m.mains.length ≤ 1048576) (hs : sizeN m.funs ≤ 1048576) : PureV C 41 [.agg (imgV m)] (.s (.bool (imgB m))) := by
  refine pure_of_run Tryz.func41 rfl (by kernel_rfl) (by kernel_rfl) (by simp) (fun _ => rfl) (fun _ => rfl) 6 1000 ?_
  by_cases c1 : (72 : Int) < m.funs.length
  · have e : imgB m = false := by
      have : ¬ m.funs.length ≤ 72 := by omega
      rw [imgB_eq]; simp [tailB, this]
    simp +contextual (maxSteps := 2000000) (disch := ((try unfold LIM at *); omega)) only [↓bcT, ↓bcF, WA, simprocAttr, wrI, imgV, List.length_map, c1, e]
  by_cases c2 : (8 : Int) < m.mains.length
  · have e : imgB m = false := by
      have : ¬ m.mains.length ≤ 8 := by omega
      rw [imgB_eq]; simp [tailB, this]
    simp +contextual (maxSteps := 2000000) (disch := ((try unfold LIM at *); omega)) only [↓bcT, ↓bcF, WA, simprocAttr, wrI, imgV, List.length_map, c1, c2, e]
  have c1' : m.funs.length ≤ 72 := by omega
  have c2' : m.mains.length ≤ 8 := by omega
  simp +contextual (maxSteps := 2000000) (disch := ((try unfold LIM at *); omega)) only [↓bcT, ↓bcF, WA, simprocAttr, wrI, imgV, List.length_map, c1, c2]
  intro _ _
  refine LoopThen.own (ι := Nat × Nat) (fun p => p.1 ≤ m.funs.length ∧ p.2 + sizeN (m.funs.drop p.1) = sizeN m.funs ∧ (m.funs.drop p.1).all okF = m.funs.all okF ∧ p.2 ≤ 3680)
    (fun p => [(1, .ptr 0 0 0), (3, .s (.int .i64 p.2)), (4, .s (.int .i64 p.1))])
    (fun _ => [⟨[[.f 6 (m.funs.map fnV), .f 1 (m.mains.map iV)]], 2, 1, true⟩]) (fun p => m.funs.length - p.1) 1000 1000
    ⟨(0, 0), ⟨Nat.zero_le _, by simp, rfl, Nat.zero_le _⟩, [0], by simp, by simp +contextual (maxSteps := 2000000) (disch := ((try unfold LIM at *); omega)) only [↓bcT, ↓bcF, WA, simprocAttr, wrI], by simp +contextual (maxSteps := 2000000) (disch := ((try unfold LIM at *); omega)) only [↓bcT, ↓bcF, WA, simprocAttr, wrI, nm_at]⟩ ?_
  rintro ⟨i, a⟩ ⟨p1, p2, p3, p6⟩
  by_cases c3 : (i : Int) < m.funs.length
  · obtain ⟨f, hf⟩ := get_lt c3
    have pi : (0 : Int) ≤ i := by omega
    rw [drop_cons hf] at p3
    simp only [List.all_cons] at p3
    rw [sizeN_drop hf] at p2
    simp only at p1 p2 p6
    have b1 : (a : Int) + f.code.length ≤ 1048576 := by omega
    have hfv : (m.funs.map fnV)[i]? = some (fnV f) := by rw [List.getElem?_map, hf]; rfl
    by_cases c4 : (3680 : Int) < (a : Int) + f.code.length
    · have e : imgB m = false := by
        have : ¬ sizeN m.funs ≤ 3680 := by omega
        rw [imgB_eq]; simp [tailB, this]
      simp +contextual (maxSteps := 2000000) (disch := ((try unfold LIM at *); omega)) only [↓bcT, ↓bcF, WA, simprocAttr, wrI, List.length_map, c3, hfv, pi, fnV, c4, e]
    simp +contextual (maxSteps := 2000000) (disch := ((try unfold LIM at *); omega)) only [↓bcT, ↓bcF, WA, simprocAttr, wrI, List.length_map, c3, hfv, pi, fnV, c4]
    intro _ _
    refine CallThen.pure (walk56 f.mod) 1000 ?_
    cases c5 : nameB f.mod
    · have e : imgB m = false := by
        rw [imgB_eq, ← p3]; simp only [okF, c5, Bool.false_and]
      simp +contextual (maxSteps := 2000000) (disch := ((try unfold LIM at *); omega)) only [↓bcT, ↓bcF, WA, simprocAttr, wrI, c5, e]
    simp +contextual (maxSteps := 2000000) (disch := ((try unfold LIM at *); omega)) only [↓bcT, ↓bcF, WA, simprocAttr, wrI, c5]
    refine CallThen.pure (walk57 f _ rfl) 1000 ?_
    cases c6 : cfB f
    · have e : imgB m = false := by
        rw [imgB_eq, ← p3]; simp only [cfB_ok, c6, Bool.and_false, Bool.false_and]
      simp +contextual (maxSteps := 2000000) (disch := ((try unfold LIM at *); omega)) only [↓bcT, ↓bcF, WA, simprocAttr, wrI, c6, e]
    · have eo : okF f = true := by rw [cfB_ok, c5, c6]; rfl
      rw [eo, Bool.true_and] at p3
      simp +contextual (maxSteps := 2000000) (disch := ((try unfold LIM at *); omega)) only [↓bcT, ↓bcF, WA, simprocAttr, wrI, c6, cast_succ]
      exact ⟨(i + 1, a + f.code.length), ⟨⟨by simp only; omega, by simp only; omega, p3, by simp only; omega⟩, by simp only; omega⟩, [0], by simp, ⟨.inl ⟨rfl, rfl⟩, trivial⟩, by simp +contextual (maxSteps := 2000000) (disch := ((try unfold LIM at *); omega)) only [↓bcT, ↓bcF, WA, simprocAttr, wrI, nm_at, Int.natCast_add]⟩
  · have e : i = m.funs.length := by omega
    subst e
    rw [List.drop_length] at p3
    simp only [List.drop_length, sizeN] at p2
    have s1 : sizeN m.funs ≤ 3680 := by omega
    have e : imgB m = m.mains.all fun n => rangeB n 0 ((m.funs.length : Int) - 1) := by
      rw [imgB_eq, ← p3]; simp [tailB, s1, c1', c2']
    simp +contextual (maxSteps := 2000000) (disch := ((try unfold LIM at *); omega)) only [↓bcT, ↓bcF, WA, simprocAttr, wrI, c3, List.length_map, e]
    intro _
    refine LoopThen.own (ι := Nat) (fun i => i ≤ m.mains.length ∧ ((m.mains.drop i).all fun n => rangeB n 0 ((m.funs.length : Int) - 1)) = m.mains.all fun n => rangeB n 0 ((m.funs.length : Int) - 1))
      (fun i => [(1, .ptr 0 0 0), (6, .s (.int .i64 i))]) (fun _ => [⟨[[.f 6 (m.funs.map fnV), .f 1 (m.mains.map iV)]], 2, 1, true⟩]) (fun i => m.mains.length - i) 1000 1000
      ⟨0, ⟨Nat.zero_le _, rfl⟩, [0], by simp, by simp +contextual (maxSteps := 2000000) (disch := ((try unfold LIM at *); omega)) only [↓bcT, ↓bcF, WA, simprocAttr, wrI], by simp +contextual (maxSteps := 2000000) (disch := ((try unfold LIM at *); omega)) only [↓bcT, ↓bcF, WA, simprocAttr, wrI, nm_at]⟩ ?_
    rintro i ⟨q1, q2⟩
    by_cases c4 : (i : Int) < m.mains.length
    · obtain ⟨x, hx⟩ := get_lt c4
      have pi : (0 : Int) ≤ i := by omega
      rw [drop_cons hx] at q2
      simp only [List.all_cons] at q2
      have hxv : (m.mains.map iV)[i]? = some (iV x) := by rw [List.getElem?_map, hx]; rfl
      simp +contextual (maxSteps := 2000000) (disch := ((try unfold LIM at *); omega)) only [↓bcT, ↓bcF, WA, simprocAttr, wrI, List.length_map, c4, hxv, pi]
      refine fun _ => DrawThen.of 1000 [] (.old 0 (.old 1 (.old 2 (.old 3 (.old 4 (.old 5 (.old 6 (.old 7 (.old 8 (.old 9 (.old 10 (.old 11 (.old 12 (.old 13 (.old 14 (.old 15 (.old 16 .done))))))))))))))))) (panFree_loopO (panFree_pure _ _ _)) (by kernel_rfl) (by kernel_rfl) (by kernel_rfl) ?_
      by_cases d1 : x < 0
      · have er : rangeB x 0 ((m.funs.length : Int) - 1) = false := by simp only [rangeB, Bool.and_eq_false_iff, decide_eq_false_iff_not]; omega
        rw [er] at q2
        simp +contextual (maxSteps := 2000000) (disch := ((try unfold LIM at *); omega)) only [↓bcT, ↓bcF, WA, simprocAttr, wrI, List.length_map, c4, hxv, pi, iV, d1, ← q2, Bool.false_and]
      by_cases d2 : (m.funs.length : Int) ≤ x
      · have er : rangeB x 0 ((m.funs.length : Int) - 1) = false := by simp only [rangeB, Bool.and_eq_false_iff, decide_eq_false_iff_not]; omega
        rw [er] at q2
        simp +contextual (maxSteps := 2000000) (disch := ((try unfold LIM at *); omega)) only [↓bcT, ↓bcF, WA, simprocAttr, wrI, List.length_map, c4, hxv, pi, iV, d1, d2, ← q2, Bool.false_and]
      · have er : rangeB x 0 ((m.funs.length : Int) - 1) = true := by simp only [rangeB, Bool.and_eq_true, decide_eq_true_eq]; omega
        rw [er, Bool.true_and] at q2
        simp +contextual (maxSteps := 2000000) (disch := ((try unfold LIM at *); omega)) only [↓bcT, ↓bcF, WA, simprocAttr, wrI, List.length_map, c4, hxv, pi, iV, d1, d2, cast_succ]
        exact fun _ => ⟨i + 1, ⟨⟨by omega, q2⟩, by omega⟩, [0], by simp, ⟨.inl ⟨rfl, rfl⟩, trivial⟩, rfl, rfl⟩
    · have e : i = m.mains.length := by omega
      subst e
      rw [List.drop_length] at q2
      simp +contextual (maxSteps := 2000000) (disch := ((try unfold LIM at *); omega)) only [↓bcT, ↓bcF, WA, simprocAttr, wrI, c4, List.length_map, ← q2, List.all_nil]
end Go.Proofs.YtlhkfjannhhcbaaGreatDoor
/- part B13 -/
set_option linter.unusedVariables false
set_option linter.unusedSimpArgs false
set_option maxRecDepth 100000
namespace Go.Proofs.YtlhkfjannhhcbaaGreatDoor
open Go Go.W Go.RowKit
theorem rnB_iV2 (ρ : Nat → Nat) (l : List Int) (c : Nat) : rnB ρ ⟨l.map iV, 1, c, true⟩ = ⟨l.map iV, 1, c, true⟩ := nrs_rn _ (nrs_map iV_nr l)
section
variable {D : Cx} {N n0 : Nat} {Q : QT} {k : List It} {τ : Tau} {h : H} {d : Option Nat}
end
end Go.Proofs.YtlhkfjannhhcbaaGreatDoor
/- part B14 -/
set_option linter.unusedVariables false
set_option linter.unusedSimpArgs false
set_option maxRecDepth 100000
namespace Go.Proofs.YtlhkfjannhhcbaaGreatDoor
open Go Go.W Go.RowKit
def prims16 : List ByteArray := [⟨#[43]⟩, ⟨#[45]⟩, ⟨#[42]⟩, ⟨#[47]⟩, ⟨#[37]⟩, ⟨#[60]⟩, ⟨#[60, 61]⟩, ⟨#[61]⟩, ⟨#[110, 111, 116]⟩, ⟨#[97, 116]⟩, ⟨#[108, 101, 110]⟩, ⟨#[112, 117, 116]⟩, ⟨#[106, 111, 105, 110]⟩, ⟨#[112, 114, 105, 110, 116]⟩, ⟨#[97, 110, 100]⟩, ⟨#[111, 114]⟩]
theorem pure118 : PureV C 118 [] (.f 1 (prims16.map sV)) := by
  refine pure_of_run Tryz.func118 rfl (by kernel_rfl) (by kernel_rfl) (by simp) (fun _ => rfl) (fun _ => rfl) 6 1000 ?_
  simp +contextual (maxSteps := 2000000) (disch := ((try unfold LIM at *); omega)) only [↓bcT, ↓bcF, WA, simprocAttr, wrI, List.replicate, prims16, sV]
theorem pure146 (s : ByteArray) : PureV C 146 [.s (.string s)] (.s (.int .i64 (idxL (fun w => decide (w = s)) prims16 0 + 1))) := by
  refine pure_of_run Tryz.func146 rfl (by kernel_rfl) (by kernel_rfl) (by simp) (fun _ => rfl) (fun _ => rfl) 6 1000 ?_
  simp +contextual (maxSteps := 2000000) (disch := ((try unfold LIM at *); omega)) only [↓bcT, ↓bcF, WA, simprocAttr, wrI]
  refine CallThen.pure pure118 1000 ?_
  simp +contextual (maxSteps := 2000000) (disch := ((try unfold LIM at *); omega)) only [↓bcT, ↓bcF, WA, simprocAttr, wrI]
  refine LoopThen.pure (ι := Nat) (fun i => i ≤ 16 ∧ idxL (fun w => decide (w = s)) (prims16.drop i) i = idxL (fun w => decide (w = s)) prims16 0) (fun i => keepL [(0, .s (.string s)), (3, .f 1 (prims16.map sV)), (4, .s (.int .i64 i))]) (fun i => 16 - i)
    6 [0, 3, 4] 1000 1000 ⟨0, ⟨by omega, rfl⟩, by simp +contextual (maxSteps := 2000000) (disch := ((try unfold LIM at *); omega)) only [↓bcT, ↓bcF, WA, simprocAttr, wrI]⟩ ?_
  have hl : prims16.length = 16 := rfl
  rintro i ⟨p1, p4⟩
  by_cases c2 : (i : Int) < prims16.length
  · obtain ⟨f, hf⟩ := get_lt c2
    have pi : (0 : Int) ≤ i := by omega
    have c2' : (i : Int) < 16 := by omega
    rw [drop_cons hf] at p4
    simp only [idxL] at p4
    by_cases c3 : f = s
    · rw [if_pos (by simp [c3])] at p4
      simp +contextual (maxSteps := 2000000) (disch := ((try unfold LIM at *); omega)) only [↓bcT, ↓bcF, WA, simprocAttr, wrI, List.length_map, hl, c2, c2', hf, pi, sV, c3, ← p4]
    · rw [if_neg (by simp [c3])] at p4
      have c3' : ¬ s = f := fun e => c3 e.symm
      simp +contextual (maxSteps := 2000000) (disch := ((try unfold LIM at *); omega)) only [↓bcT, ↓bcF, WA, simprocAttr, wrI, List.length_map, hl, c2, c2', hf, pi, sV, c3, c3', cast_succ]
      exact fun _ => ⟨i + 1, ⟨⟨by omega, by rw [← p4]; rfl⟩, by omega⟩, rfl⟩
  · have e : i = 16 := by omega
    subst e
    rw [List.drop_of_length_le (by rw [hl]; omega)] at p4
    simp only [idxL] at p4
    simp +contextual (maxSteps := 2000000) (disch := ((try unfold LIM at *); omega)) only [↓bcT, ↓bcF, WA, simprocAttr, wrI, List.length_map, hl, c2, ← p4]
theorem ix_0 : idxL (fun w => decide (w = primW 0)) prims16 0 + 1 = 1 := by decide
theorem w147_0 : PureV C 147 [.s (.string (primW 0))] (primRes 0) := by
  refine pure_of_run Tryz.func147 rfl (by kernel_rfl) (by kernel_rfl) (by simp) (fun _ => rfl) (fun _ => rfl) 6 1000 ?_
  simp +contextual (maxSteps := 2000000) (disch := ((try unfold LIM at *); omega)) only [↓bcT, ↓bcF, WA, simprocAttr, wrI]
  refine CallThen.pure (pure146 _) 1000 ?_
  simp +contextual (maxSteps := 2000000) (disch := ((try unfold LIM at *); omega)) only [↓bcT, ↓bcF, WA, simprocAttr, wrI, ix_0, primRes, primT, iV, List.replicate, List.map_cons, List.map_nil]
theorem ix_1 : idxL (fun w => decide (w = primW 1)) prims16 0 + 1 = 2 := by decide
theorem w147_1 : PureV C 147 [.s (.string (primW 1))] (primRes 1) := by
  refine pure_of_run Tryz.func147 rfl (by kernel_rfl) (by kernel_rfl) (by simp) (fun _ => rfl) (fun _ => rfl) 6 1000 ?_
  simp +contextual (maxSteps := 2000000) (disch := ((try unfold LIM at *); omega)) only [↓bcT, ↓bcF, WA, simprocAttr, wrI]
  refine CallThen.pure (pure146 _) 1000 ?_
  simp +contextual (maxSteps := 2000000) (disch := ((try unfold LIM at *); omega)) only [↓bcT, ↓bcF, WA, simprocAttr, wrI, ix_1, primRes, primT, iV, List.replicate, List.map_cons, List.map_nil]
theorem ix_2 : idxL (fun w => decide (w = primW 2)) prims16 0 + 1 = 3 := by decide
theorem w147_2 : PureV C 147 [.s (.string (primW 2))] (primRes 2) := by
  refine pure_of_run Tryz.func147 rfl (by kernel_rfl) (by kernel_rfl) (by simp) (fun _ => rfl) (fun _ => rfl) 6 1000 ?_
  simp +contextual (maxSteps := 2000000) (disch := ((try unfold LIM at *); omega)) only [↓bcT, ↓bcF, WA, simprocAttr, wrI]
  refine CallThen.pure (pure146 _) 1000 ?_
  simp +contextual (maxSteps := 2000000) (disch := ((try unfold LIM at *); omega)) only [↓bcT, ↓bcF, WA, simprocAttr, wrI, ix_2, primRes, primT, iV, List.replicate, List.map_cons, List.map_nil]
theorem ix_3 : idxL (fun w => decide (w = primW 3)) prims16 0 + 1 = 4 := by decide
theorem w147_3 : PureV C 147 [.s (.string (primW 3))] (primRes 3) := by
  refine pure_of_run Tryz.func147 rfl (by kernel_rfl) (by kernel_rfl) (by simp) (fun _ => rfl) (fun _ => rfl) 6 1000 ?_
  simp +contextual (maxSteps := 2000000) (disch := ((try unfold LIM at *); omega)) only [↓bcT, ↓bcF, WA, simprocAttr, wrI]
  refine CallThen.pure (pure146 _) 1000 ?_
  simp +contextual (maxSteps := 2000000) (disch := ((try unfold LIM at *); omega)) only [↓bcT, ↓bcF, WA, simprocAttr, wrI, ix_3, primRes, primT, iV, List.replicate, List.map_cons, List.map_nil]
theorem ix_4 : idxL (fun w => decide (w = primW 4)) prims16 0 + 1 = 5 := by decide
theorem w147_4 : PureV C 147 [.s (.string (primW 4))] (primRes 4) := by
  refine pure_of_run Tryz.func147 rfl (by kernel_rfl) (by kernel_rfl) (by simp) (fun _ => rfl) (fun _ => rfl) 6 1000 ?_
  simp +contextual (maxSteps := 2000000) (disch := ((try unfold LIM at *); omega)) only [↓bcT, ↓bcF, WA, simprocAttr, wrI]
  refine CallThen.pure (pure146 _) 1000 ?_
  simp +contextual (maxSteps := 2000000) (disch := ((try unfold LIM at *); omega)) only [↓bcT, ↓bcF, WA, simprocAttr, wrI, ix_4, primRes, primT, iV, List.replicate, List.map_cons, List.map_nil]
theorem ix_5 : idxL (fun w => decide (w = primW 5)) prims16 0 + 1 = 6 := by decide
theorem w147_5 : PureV C 147 [.s (.string (primW 5))] (primRes 5) := by
  refine pure_of_run Tryz.func147 rfl (by kernel_rfl) (by kernel_rfl) (by simp) (fun _ => rfl) (fun _ => rfl) 6 1000 ?_
  simp +contextual (maxSteps := 2000000) (disch := ((try unfold LIM at *); omega)) only [↓bcT, ↓bcF, WA, simprocAttr, wrI]
  refine CallThen.pure (pure146 _) 1000 ?_
  simp +contextual (maxSteps := 2000000) (disch := ((try unfold LIM at *); omega)) only [↓bcT, ↓bcF, WA, simprocAttr, wrI, ix_5, primRes, primT, iV, List.replicate, List.map_cons, List.map_nil]
theorem ix_6 : idxL (fun w => decide (w = primW 6)) prims16 0 + 1 = 7 := by decide
theorem w147_6 : PureV C 147 [.s (.string (primW 6))] (primRes 6) := by
  refine pure_of_run Tryz.func147 rfl (by kernel_rfl) (by kernel_rfl) (by simp) (fun _ => rfl) (fun _ => rfl) 6 1000 ?_
  simp +contextual (maxSteps := 2000000) (disch := ((try unfold LIM at *); omega)) only [↓bcT, ↓bcF, WA, simprocAttr, wrI]
  refine CallThen.pure (pure146 _) 1000 ?_
  simp +contextual (maxSteps := 2000000) (disch := ((try unfold LIM at *); omega)) only [↓bcT, ↓bcF, WA, simprocAttr, wrI, ix_6, primRes, primT, iV, List.replicate, List.map_cons, List.map_nil]
theorem ix_7 : idxL (fun w => decide (w = primW 7)) prims16 0 + 1 = 8 := by decide
theorem w147_7 : PureV C 147 [.s (.string (primW 7))] (primRes 7) := by
  refine pure_of_run Tryz.func147 rfl (by kernel_rfl) (by kernel_rfl) (by simp) (fun _ => rfl) (fun _ => rfl) 6 1000 ?_
  simp +contextual (maxSteps := 2000000) (disch := ((try unfold LIM at *); omega)) only [↓bcT, ↓bcF, WA, simprocAttr, wrI]
  refine CallThen.pure (pure146 _) 1000 ?_
  simp +contextual (maxSteps := 2000000) (disch := ((try unfold LIM at *); omega)) only [↓bcT, ↓bcF, WA, simprocAttr, wrI, ix_7, primRes, primT, iV, List.replicate, List.map_cons, List.map_nil]
theorem ix_8 : idxL (fun w => decide (w = primW 8)) prims16 0 + 1 = 9 := by decide
theorem w147_8 : PureV C 147 [.s (.string (primW 8))] (primRes 8) := by
  refine pure_of_run Tryz.func147 rfl (by kernel_rfl) (by kernel_rfl) (by simp) (fun _ => rfl) (fun _ => rfl) 6 1000 ?_
  simp +contextual (maxSteps := 2000000) (disch := ((try unfold LIM at *); omega)) only [↓bcT, ↓bcF, WA, simprocAttr, wrI]
  refine CallThen.pure (pure146 _) 1000 ?_
  simp +contextual (maxSteps := 2000000) (disch := ((try unfold LIM at *); omega)) only [↓bcT, ↓bcF, WA, simprocAttr, wrI, ix_8, primRes, primT, iV, List.replicate, List.map_cons, List.map_nil]
theorem ix_9 : idxL (fun w => decide (w = primW 9)) prims16 0 + 1 = 10 := by decide
theorem w147_9 : PureV C 147 [.s (.string (primW 9))] (primRes 9) := by
  refine pure_of_run Tryz.func147 rfl (by kernel_rfl) (by kernel_rfl) (by simp) (fun _ => rfl) (fun _ => rfl) 6 1000 ?_
  simp +contextual (maxSteps := 2000000) (disch := ((try unfold LIM at *); omega)) only [↓bcT, ↓bcF, WA, simprocAttr, wrI]
  refine CallThen.pure (pure146 _) 1000 ?_
  simp +contextual (maxSteps := 2000000) (disch := ((try unfold LIM at *); omega)) only [↓bcT, ↓bcF, WA, simprocAttr, wrI, ix_9, primRes, primT, iV, List.replicate, List.map_cons, List.map_nil]
theorem ix_10 : idxL (fun w => decide (w = primW 10)) prims16 0 + 1 = 11 := by decide
theorem w147_10 : PureV C 147 [.s (.string (primW 10))] (primRes 10) := by
  refine pure_of_run Tryz.func147 rfl (by kernel_rfl) (by kernel_rfl) (by simp) (fun _ => rfl) (fun _ => rfl) 6 1000 ?_
  simp +contextual (maxSteps := 2000000) (disch := ((try unfold LIM at *); omega)) only [↓bcT, ↓bcF, WA, simprocAttr, wrI]
  refine CallThen.pure (pure146 _) 1000 ?_
  simp +contextual (maxSteps := 2000000) (disch := ((try unfold LIM at *); omega)) only [↓bcT, ↓bcF, WA, simprocAttr, wrI, ix_10, primRes, primT, iV, List.replicate, List.map_cons, List.map_nil]
theorem ix_11 : idxL (fun w => decide (w = primW 11)) prims16 0 + 1 = 12 := by decide
theorem w147_11 : PureV C 147 [.s (.string (primW 11))] (primRes 11) := by
  refine pure_of_run Tryz.func147 rfl (by kernel_rfl) (by kernel_rfl) (by simp) (fun _ => rfl) (fun _ => rfl) 6 1000 ?_
  simp +contextual (maxSteps := 2000000) (disch := ((try unfold LIM at *); omega)) only [↓bcT, ↓bcF, WA, simprocAttr, wrI]
  refine CallThen.pure (pure146 _) 1000 ?_
  simp +contextual (maxSteps := 2000000) (disch := ((try unfold LIM at *); omega)) only [↓bcT, ↓bcF, WA, simprocAttr, wrI, ix_11, primRes, primT, iV, List.replicate, List.map_cons, List.map_nil]
theorem ix_12 : idxL (fun w => decide (w = primW 12)) prims16 0 + 1 = 13 := by decide
theorem w147_12 : PureV C 147 [.s (.string (primW 12))] (primRes 12) := by
  refine pure_of_run Tryz.func147 rfl (by kernel_rfl) (by kernel_rfl) (by simp) (fun _ => rfl) (fun _ => rfl) 6 1000 ?_
  simp +contextual (maxSteps := 2000000) (disch := ((try unfold LIM at *); omega)) only [↓bcT, ↓bcF, WA, simprocAttr, wrI]
  refine CallThen.pure (pure146 _) 1000 ?_
  simp +contextual (maxSteps := 2000000) (disch := ((try unfold LIM at *); omega)) only [↓bcT, ↓bcF, WA, simprocAttr, wrI, ix_12, primRes, primT, iV, List.replicate, List.map_cons, List.map_nil]
theorem ix_13 : idxL (fun w => decide (w = primW 13)) prims16 0 + 1 = 14 := by decide
theorem w147_13 : PureV C 147 [.s (.string (primW 13))] (primRes 13) := by
  refine pure_of_run Tryz.func147 rfl (by kernel_rfl) (by kernel_rfl) (by simp) (fun _ => rfl) (fun _ => rfl) 6 1000 ?_
  simp +contextual (maxSteps := 2000000) (disch := ((try unfold LIM at *); omega)) only [↓bcT, ↓bcF, WA, simprocAttr, wrI]
  refine CallThen.pure (pure146 _) 1000 ?_
  simp +contextual (maxSteps := 2000000) (disch := ((try unfold LIM at *); omega)) only [↓bcT, ↓bcF, WA, simprocAttr, wrI, ix_13, primRes, primT, iV, List.replicate, List.map_cons, List.map_nil]
theorem pure147 : ∀ i : Nat, i < 14 → PureV C 147 [.s (.string (primW i))] (primRes i)
  | 0, _ => w147_0
  | 1, _ => w147_1
  | 2, _ => w147_2
  | 3, _ => w147_3
  | 4, _ => w147_4
  | 5, _ => w147_5
  | 6, _ => w147_6
  | 7, _ => w147_7
  | 8, _ => w147_8
  | 9, _ => w147_9
  | 10, _ => w147_10
  | 11, _ => w147_11
  | 12, _ => w147_12
  | 13, _ => w147_13
  | n + 14, h => absurd h (by omega)
end Go.Proofs.YtlhkfjannhhcbaaGreatDoor
/- part B15 -/
set_option linter.unusedVariables false
set_option linter.unusedSimpArgs false
set_option maxRecDepth 100000
namespace Go.Proofs.YtlhkfjannhhcbaaGreatDoor
open Go Go.W Go.RowKit
theorem prims_at : ∀ n : Nat, n < 14 → (prims16.map sV)[n]? = some [V.s (.string (primW n))]
  | 0, _ => rfl
  | 1, _ => rfl
  | 2, _ => rfl
  | 3, _ => rfl
  | 4, _ => rfl
  | 5, _ => rfl
  | 6, _ => rfl
  | 7, _ => rfl
  | 8, _ => rfl
  | 9, _ => rfl
  | 10, _ => rfl
  | 11, _ => rfl
  | 12, _ => rfl
  | 13, _ => rfl
  | n + 14, h => absurd h (by omega)
end Go.Proofs.YtlhkfjannhhcbaaGreatDoor
/- part B16 -/
set_option linter.unusedVariables false
set_option linter.unusedSimpArgs false
set_option maxRecDepth 100000
namespace Go.Proofs.YtlhkfjannhhcbaaGreatDoor
open Go Go.W Go.RowKit
theorem iV_rn (ρ : Nat → Nat) (l : List Int) : ((l.map iV).map fun el => el.map (rnC ρ)) = l.map iV := congrArg Blk.els (rnB_iV2 ρ l 0)
end Go.Proofs.YtlhkfjannhhcbaaGreatDoor
/- part B17 -/
set_option linter.unusedVariables false
set_option linter.unusedSimpArgs false
set_option maxRecDepth 100000
namespace Go.Proofs.YtlhkfjannhhcbaaGreatDoor
open Go Go.W Go.RowKit
def lenL {α : Type} (l : List α) (left : Int) : Int := if left - l.length < 0 then -1 else left - l.length
theorem lenL_range {α : Type} (l : List α) (left : Int) (h0 : 0 ≤ left) (h1 : left ≤ 1048576) : -1 ≤ lenL l left ∧ lenL l left ≤ left := by
  unfold lenL; split <;> omega
def kbud {α : Type} (sz : α → Int → Int) : List α → Int → Int
  | [], left => left
  | a :: r, left => if sz a left < 0 then -1 else kbud sz r (sz a left)
def kszS {α : Type} (sz : α → Int → Int) (l : List α) (left : Int) : Int := if left - l.length < 0 then -1 else kbud sz l (left - l.length)
theorem kbud_range {α : Type} {sz : α → Int → Int} (hr : ∀ f left, 0 ≤ left → left ≤ 1048576 → -1 ≤ sz f left ∧ sz f left ≤ left) : ∀ (l : List α) (left : Int), 0 ≤ left → left ≤ 1048576 → -1 ≤ kbud sz l left ∧ kbud sz l left ≤ left
  | [], left, h0, h1 => by rw [kbud]; omega
  | a :: r, left, h0, h1 => by
    have := hr a left h0 h1
    rw [kbud]; split
    · omega
    · have := kbud_range hr r (sz a left) (by omega) (by omega); omega
theorem kszS_range {α : Type} {sz : α → Int → Int} (hr : ∀ f left, 0 ≤ left → left ≤ 1048576 → -1 ≤ sz f left ∧ sz f left ≤ left) (l : List α) (left : Int) (h0 : 0 ≤ left) (h1 : left ≤ 1048576) : -1 ≤ kszS sz l left ∧ kszS sz l left ≤ left := by
  unfold kszS; split
  · omega
  · have := kbud_range hr l (left - l.length) (by omega) (by omega); omega
theorem walk24 (l : List Int) (left : Int) (h0 : 0 ≤ left) (h1 : left ≤ 1048576) : PureV C 24 [.f 1 (l.map iV), .s (.int .i64 left)] (.s (.int .i64 (lenL l left))) := by
  refine pure_of_run Tryz.func24 rfl (by kernel_rfl) (by kernel_rfl) (by simp) (fun _ => rfl) (fun _ => rfl) 6 1000 ?_
  by_cases c : left - (l.length : Int) < 0 <;> simp +contextual (maxSteps := 2000000) (disch := ((try unfold LIM at *); omega)) only [↓bcT, ↓bcF, WA, simprocAttr, wrI, lenL, List.length_map, c] <;> (try (intros; omega))
theorem walk55 (l : List Ins) (left : Int) (h0 : 0 ≤ left) (h1 : left ≤ 1048576) : PureV C 55 [.f 2 (l.map insV), .s (.int .i64 left)] (.s (.int .i64 (lenL l left))) := by
  refine pure_of_run Tryz.func55 rfl (by kernel_rfl) (by kernel_rfl) (by simp) (fun _ => rfl) (fun _ => rfl) 6 1000 ?_
  by_cases c : left - (l.length : Int) < 0 <;> simp +contextual (maxSteps := 2000000) (disch := ((try unfold LIM at *); omega)) only [↓bcT, ↓bcF, WA, simprocAttr, wrI, lenL, List.length_map, c] <;> (try (intros; omega))
def szFn (f : IFun) (left : Int) : Int :=
  if left - f.mod.size < 0 then -1 else if left - f.mod.size - f.name.size < 0 then -1 else
  if lenL f.args (left - f.mod.size - f.name.size) < 0 then -1 else lenL f.code (lenL f.args (left - f.mod.size - f.name.size))
theorem szFn_range (f : IFun) (left : Int) (h0 : 0 ≤ left) (h1 : left ≤ 1048576) : -1 ≤ szFn f left ∧ szFn f left ≤ left := by
  unfold szFn
  split
  · omega
  split
  · omega
  have := lenL_range f.args (left - f.mod.size - f.name.size) (by omega) (by omega)
  split
  · omega
  have := lenL_range f.code (lenL f.args (left - f.mod.size - f.name.size)) (by omega) (by omega)
  omega
theorem walk40 (f : IFun) (left : Int) (h0 : 0 ≤ left) (h1 : left ≤ 1048576) : PureV C 40 [.agg (fnV f), .s (.int .i64 left)] (.s (.int .i64 (szFn f left))) := by
  refine pure_of_run Tryz.func40 rfl (by kernel_rfl) (by kernel_rfl) (by simp) (fun _ => rfl) (fun _ => rfl) 6 1000 ?_
  by_cases c1 : left - (f.mod.size : Int) < 0
  · simp +contextual (maxSteps := 2000000) (disch := ((try unfold LIM at *); omega)) only [↓bcT, ↓bcF, WA, simprocAttr, wrI, fnV, szFn, c1]
    try (intros; omega)
  by_cases c2 : left - (f.mod.size : Int) - f.name.size < 0
  · simp +contextual (maxSteps := 2000000) (disch := ((try unfold LIM at *); omega)) only [↓bcT, ↓bcF, WA, simprocAttr, wrI, fnV, szFn, c1, c2]
    try (intros; omega)
  simp +contextual (maxSteps := 2000000) (disch := ((try unfold LIM at *); omega)) only [↓bcT, ↓bcF, WA, simprocAttr, wrI, fnV, szFn, c1, c2]
  intro q1 q2
  refine CallThen.pure (walk24 f.args _ (by omega) (by omega)) 1000 ?_
  have hr := lenL_range f.args (left - f.mod.size - f.name.size) (by omega) (by omega)
  generalize lenL f.args (left - f.mod.size - f.name.size) = e at *
  by_cases c3 : e < 0
  · simp +contextual (maxSteps := 2000000) (disch := ((try unfold LIM at *); omega)) only [↓bcT, ↓bcF, WA, simprocAttr, wrI, c3]
  simp +contextual (maxSteps := 2000000) (disch := ((try unfold LIM at *); omega)) only [↓bcT, ↓bcF, WA, simprocAttr, wrI, c3]
  refine CallThen.pure (walk55 f.code _ (by omega) (by omega)) 1000 ?_
  have hr2 := lenL_range f.code e (by omega) (by omega)
  generalize lenL f.code e = e2 at *
  by_cases c4 : e2 < 0
  · have : e2 = -1 := by omega
    simp +contextual (maxSteps := 2000000) (disch := ((try unfold LIM at *); omega)) only [↓bcT, ↓bcF, WA, simprocAttr, wrI, c4, this]
  · simp +contextual (maxSteps := 2000000) (disch := ((try unfold LIM at *); omega)) only [↓bcT, ↓bcF, WA, simprocAttr, wrI, c4]
theorem walk23 (l : List IFun) (left : Int) (h0 : 0 ≤ left) (h1 : left ≤ 1048576) : PureV C 23 [.f 6 (l.map fnV), .s (.int .i64 left)] (.s (.int .i64 (kszS szFn l left))) := by
  refine pure_of_run Tryz.func23 rfl (by kernel_rfl) (by kernel_rfl) (by simp) (fun _ => rfl) (fun _ => rfl) 6 1000 ?_
  simp +contextual (maxSteps := 2000000) (disch := ((try unfold LIM at *); omega)) only [↓bcT, ↓bcF, WA, simprocAttr, wrI, kszS, List.length_map]
  intro hl hc
  refine LoopThen.pure (ι := Nat × Int) (fun p => p.1 ≤ l.length ∧ 0 ≤ p.2 ∧ p.2 ≤ 1048576 ∧ kbud szFn (l.drop p.1) p.2 = kbud szFn l (left - l.length)) (fun p => keepL [(0, .f 6 (l.map fnV)), (1, .s (.int .i64 p.2)), (5, .s (.int .i64 p.1))]) (fun p => l.length - p.1)
    6 [0, 1, 5] 1000 1000 ⟨(0, left - l.length), ⟨by omega, by omega, by omega, rfl⟩, by simp +contextual (maxSteps := 2000000) (disch := ((try unfold LIM at *); omega)) only [↓bcT, ↓bcF, WA, simprocAttr, wrI]⟩ ?_
  rintro ⟨i, a⟩ ⟨p1, p2, p3, p4⟩
  by_cases c2 : (i : Int) < l.length
  · obtain ⟨f, hf⟩ := get_lt c2
    have pi : (0 : Int) ≤ i := by omega
    simp +contextual (maxSteps := 2000000) (disch := ((try unfold LIM at *); omega)) only [↓bcT, ↓bcF, WA, simprocAttr, wrI, List.length_map, hl, c2, hf, pi, fnV]
    refine CallThen.pure (walk40 f a p2 p3) 1000 ?_
    have hr := szFn_range f a p2 p3
    have key : kbud szFn l (left - l.length) = if szFn f a < 0 then -1 else kbud szFn (l.drop (i + 1)) (szFn f a) := by rw [← p4]; simp only [drop_cons hf, kbud]
    by_cases c3 : szFn f a < 0
    · simp +contextual (maxSteps := 2000000) (disch := ((try unfold LIM at *); omega)) only [↓bcT, ↓bcF, WA, simprocAttr, wrI, List.length_map, c3, key]
    · simp +contextual (maxSteps := 2000000) (disch := ((try unfold LIM at *); omega)) only [↓bcT, ↓bcF, WA, simprocAttr, wrI, List.length_map, c3, cast_succ]
      refine ⟨(i + 1, szFn f a), ⟨⟨by omega, by omega, by omega, ?_⟩, by omega⟩, rfl⟩
      simp only [key, c3, if_false]
  · have e : i = l.length := by simp at p1; omega
    subst e
    simp +contextual (maxSteps := 2000000) (disch := ((try unfold LIM at *); omega)) only [↓bcT, ↓bcF, WA, simprocAttr, wrI, List.length_map, hl, c2, ← p4, List.drop_length, kbud]
def szImg (m : Img) (left : Int) : Int := if kszS szFn m.funs left < 0 then -1 else lenL m.mains (kszS szFn m.funs left)
theorem walk6 (m : Img) (left : Int) (h0 : 0 ≤ left) (h1 : left ≤ 1048576) : PureV C 6 [.agg (imgV m), .s (.int .i64 left)] (.s (.int .i64 (szImg m left))) := by
  refine pure_of_run Tryz.func6 rfl (by kernel_rfl) (by kernel_rfl) (by simp) (fun _ => rfl) (fun _ => rfl) 6 1000 ?_
  have r := kszS_range szFn_range m.funs left h0 h1
  simp +contextual (maxSteps := 2000000) (disch := ((try unfold LIM at *); omega)) only [↓bcT, ↓bcF, WA, simprocAttr, wrI, imgV]
  refine CallThen.pure (walk23 m.funs left h0 h1) 1000 ?_
  unfold szImg
  generalize kszS szFn m.funs left = e at *
  by_cases c : e < 0
  · simp +contextual (maxSteps := 2000000) (disch := ((try unfold LIM at *); omega)) only [↓bcT, ↓bcF, WA, simprocAttr, wrI, c]
  · simp +contextual (maxSteps := 2000000) (disch := ((try unfold LIM at *); omega)) only [↓bcT, ↓bcF, WA, simprocAttr, wrI, c]
    refine CallThen.pure (walk24 m.mains _ (by omega) (by omega)) 1000 ?_
    have r2 := lenL_range m.mains e (by omega) (by omega)
    generalize lenL m.mains e = e2 at *
    by_cases c4 : e2 < 0
    · have : e2 = -1 := by omega
      simp +contextual (maxSteps := 2000000) (disch := ((try unfold LIM at *); omega)) only [↓bcT, ↓bcF, WA, simprocAttr, wrI, c4, this]
    · simp +contextual (maxSteps := 2000000) (disch := ((try unfold LIM at *); omega)) only [↓bcT, ↓bcF, WA, simprocAttr, wrI, c4]
theorem kbud_len {l : List IFun} : ∀ {left : Int}, 0 ≤ kbud szFn l left → 0 ≤ left → left ≤ 1048576 → (sizeN l : Int) ≤ left ∧ ∀ f ∈ l, f.args.length ≤ 1048576 ∧ f.code.length ≤ 1048576 := by
  induction l with
  | nil => intro left h h0 h1; exact ⟨by simp [sizeN]; omega, fun f hf => by simp at hf⟩
  | cons f r ih =>
    intro left h h0 h1
    rw [kbud] at h
    split at h
    · omega
    rename_i hs
    have hr := szFn_range f left h0 h1
    obtain ⟨i1, i2⟩ := ih h (by omega) (by omega)
    have key : (f.args.length : Int) + f.code.length + szFn f left ≤ left := by
      unfold szFn at hs ⊢
      split
      · rename_i h1; rw [if_pos h1] at hs; omega
      rename_i h1
      rw [if_neg h1] at hs
      split
      · rename_i h2; rw [if_pos h2] at hs; omega
      rename_i h2
      rw [if_neg h2] at hs
      split
      · rename_i h3; rw [if_pos h3] at hs; omega
      rename_i h3
      rw [if_neg h3] at hs
      unfold lenL at hs h3 ⊢
      split at h3
      · omega
      rename_i h4
      rw [if_neg h4] at hs ⊢
      split at hs
      · omega
      rename_i h5
      rw [if_neg h5]
      omega
    refine ⟨by simp only [sizeN]; omega, fun g hg => ?_⟩
    rcases List.mem_cons.1 hg with e | e
    · subst e; omega
    · exact i2 g e
theorem szImg_len {m : Img} (h : ¬ szImg m 1048576 < 0) : m.funs.length ≤ 1048576 ∧ m.mains.length ≤ 1048576 ∧ sizeN m.funs ≤ 1048576 ∧ ∀ f ∈ m.funs, f.args.length ≤ 1048576 ∧ f.code.length ≤ 1048576 := by
  unfold szImg at h
  have r := kszS_range szFn_range m.funs 1048576 (by decide) (by decide)
  split at h
  · omega
  rename_i h1
  have hm : (m.mains.length : Int) ≤ 1048576 := by
    unfold lenL at h; split at h <;> omega
  unfold kszS at h1
  split at h1
  · omega
  rename_i h2
  obtain ⟨k1, k2⟩ := kbud_len (l := m.funs) (left := 1048576 - m.funs.length) (by omega) (by omega) (by omega)
  exact ⟨by omega, by omega, by omega, k2⟩
theorem walk27 (l : List Int) (hl : l.length ≤ 1048576) : PureV C 27 [.f 1 (l.map iV)] (.f 1 (l.map iV)) := by
  refine pure_of_run Tryz.func27 rfl (by kernel_rfl) (by kernel_rfl) (by simp) (fun _ => rfl) (fun _ => rfl) 6 1000 ?_
  have z1 := fun n => nrs_replicate (el := [V.s (.int .i64 0)]) rfl n
  have b0 : (0 : Int) ≤ l.length := by omega
  have b1 : (8 : Int) * l.length ≤ 140737488355328 := by omega
  have b2 : (l.length : Int) ≤ 4611686018427387904 := by omega
  simp +contextual (maxSteps := 2000000) (disch := ((try unfold LIM at *); omega)) only [↓bcT, ↓bcF, WA, simprocAttr, wrI, List.length_map, b0, b1, b2, Int.le_refl]
  intro hl'
  refine LoopThen.own (ι := Nat) (fun i => i ≤ l.length) (fun i => [(0, .f 1 (l.map iV)), (3, .sl 0 0 l.length l.length), (4, .s (.int .i64 i))]) (fun i => [⟨(l.take i).map iV ++ List.replicate (l.length - i) [V.s (.int .i64 0)], 1, l.length, true⟩]) (fun i => l.length - i)
    1000 1000 ⟨0, Nat.zero_le _, [0], by simp, by simp +contextual (maxSteps := 2000000) (disch := ((try unfold LIM at *); omega)) only [↓bcT, ↓bcF, WA, simprocAttr, wrI, z1, Nat.sub_zero, true_or], by simp +contextual (maxSteps := 2000000) (disch := ((try unfold LIM at *); omega)) only [↓bcT, ↓bcF, WA, simprocAttr, wrI]⟩ ?_
  intro i p1
  by_cases c2 : (i : Int) < l.length
  · obtain ⟨f, hf⟩ := get_lt c2
    have pi : (0 : Int) ≤ i := by omega
    obtain ⟨k, hk⟩ : ∃ k, l.length - i = k + 1 := ⟨l.length - i - 1, by omega⟩
    have hl1 : ((l.take i).map iV).length = i := by simp; omega
    have g1 : ((l.take i).map iV ++ List.replicate (l.length - i) [V.s (.int .i64 0)])[i]? = some [V.s (.int .i64 0)] := by rw [fill_get _ _ hl1, hk]; rfl
    have g2 : ((l.take i).map iV ++ List.replicate (l.length - i) [V.s (.int .i64 0)]).set i (iV f) = (l.take (i + 1)).map iV ++ List.replicate (l.length - (i + 1)) [V.s (.int .i64 0)] := by
      rw [hk, fill_set _ _ _ _ _ hl1, List.take_add_one, hf, show l.length - (i + 1) = k by omega]; simp
    have g3 : nrs ((l.take (i + 1)).map iV ++ List.replicate (l.length - (i + 1)) [V.s (.int .i64 0)]) = true := by rw [nrs_append, nrs_map (fun _ => rfl), z1]; rfl
    simp +contextual (maxSteps := 2000000) (disch := ((try unfold LIM at *); omega)) only [↓bcT, ↓bcF, WA, simprocAttr, wrI, List.length_map, hl', c2, hf, pi, iV, g1]
    simp only [iV] at g2 g3
    simp +contextual (maxSteps := 2000000) (disch := ((try unfold LIM at *); omega)) only [↓bcT, ↓bcF, WA, simprocAttr, wrI, iV, g1, g2, List.length_map, pi, c2, cast_succ]
    exact ⟨i + 1, ⟨by omega, by omega⟩, [0], by simp, ⟨.inl ⟨g3, rfl⟩, trivial⟩, by simp +contextual (maxSteps := 2000000) (disch := ((try unfold LIM at *); omega)) only [↓bcT, ↓bcF, WA, simprocAttr, wrI, nm_at]⟩
  · have e : i = l.length := by omega
    subst e
    have g4 : (l.take l.length).map iV ++ List.replicate (l.length - l.length) [V.s (.int .i64 0)] = l.map iV := by simp
    have g5 : ((l.map iV).map fun el => el.map (frz 0 5 [⟨l.map iV, 1, l.length, true⟩])) = l.map iV := frz_els (nrs_map (fun _ => rfl) l) (leafs_map (fun _ => rfl) l)
    have g6 : (l.map iV).take l.length = l.map iV := List.take_of_length_le (by simp)
    simp +contextual (maxSteps := 2000000) (disch := ((try unfold LIM at *); omega)) only [↓bcT, ↓bcF, WA, simprocAttr, wrI, List.length_map, hl', c2, g4, g5, g6]
theorem walk91 (x : Ins) : PureV C 91 [.agg (insV x)] (.agg (insV x)) := by
  refine pure_of_run Tryz.func91 rfl (by kernel_rfl) (by kernel_rfl) (by simp) (fun _ => rfl) (fun _ => rfl) 6 1000 ?_
  simp +contextual (maxSteps := 2000000) (disch := ((try unfold LIM at *); omega)) only [↓bcT, ↓bcF, WA, simprocAttr, wrI, insV]
theorem walk62 (l : List Ins) (hl : l.length ≤ 1048576) : PureV C 62 [.f 2 (l.map insV)] (.f 2 (l.map insV)) := by
  refine pure_of_run Tryz.func62 rfl (by kernel_rfl) (by kernel_rfl) (by simp) (fun _ => rfl) (fun _ => rfl) 6 1000 ?_
  have z1 := fun n => nrs_replicate (el := [V.s (.int .i64 0), .s (.int .i64 0)]) rfl n
  have b0 : (0 : Int) ≤ l.length := by omega
  have b1 : (16 : Int) * l.length ≤ 140737488355328 := by omega
  have b2 : (l.length : Int) ≤ 4611686018427387904 := by omega
  simp +contextual (maxSteps := 2000000) (disch := ((try unfold LIM at *); omega)) only [↓bcT, ↓bcF, WA, simprocAttr, wrI, List.length_map, b0, b1, b2, Int.le_refl]
  intro hl'
  refine LoopThen.own (ι := Nat) (fun i => i ≤ l.length) (fun i => [(0, .f 2 (l.map insV)), (3, .sl 0 0 l.length l.length), (4, .s (.int .i64 i))]) (fun i => [⟨(l.take i).map insV ++ List.replicate (l.length - i) [V.s (.int .i64 0), .s (.int .i64 0)], 2, l.length, true⟩]) (fun i => l.length - i)
    1000 1000 ⟨0, Nat.zero_le _, [0], by simp, by simp +contextual (maxSteps := 2000000) (disch := ((try unfold LIM at *); omega)) only [↓bcT, ↓bcF, WA, simprocAttr, wrI, z1, Nat.sub_zero, true_or], by simp +contextual (maxSteps := 2000000) (disch := ((try unfold LIM at *); omega)) only [↓bcT, ↓bcF, WA, simprocAttr, wrI]⟩ ?_
  intro i p1
  by_cases c2 : (i : Int) < l.length
  · obtain ⟨f, hf⟩ := get_lt c2
    have pi : (0 : Int) ≤ i := by omega
    obtain ⟨k, hk⟩ : ∃ k, l.length - i = k + 1 := ⟨l.length - i - 1, by omega⟩
    have hl1 : ((l.take i).map insV).length = i := by simp; omega
    have g1 : ((l.take i).map insV ++ List.replicate (l.length - i) [V.s (.int .i64 0), .s (.int .i64 0)])[i]? = some [V.s (.int .i64 0), .s (.int .i64 0)] := by rw [fill_get _ _ hl1, hk]; rfl
    have g2 : ((l.take i).map insV ++ List.replicate (l.length - i) [V.s (.int .i64 0), .s (.int .i64 0)]).set i (insV f) = (l.take (i + 1)).map insV ++ List.replicate (l.length - (i + 1)) [V.s (.int .i64 0), .s (.int .i64 0)] := by
      rw [hk, fill_set _ _ _ _ _ hl1, List.take_add_one, hf, show l.length - (i + 1) = k by omega]; simp
    have g3 : nrs ((l.take (i + 1)).map insV ++ List.replicate (l.length - (i + 1)) [V.s (.int .i64 0), .s (.int .i64 0)]) = true := by rw [nrs_append, nrs_map (fun _ => rfl), z1]; rfl
    simp +contextual (maxSteps := 2000000) (disch := ((try unfold LIM at *); omega)) only [↓bcT, ↓bcF, WA, simprocAttr, wrI, List.length_map, hl', c2, hf, pi, insV, g1]
    refine CallThen.pure (walk91 f) 1000 ?_
    simp only [insV] at g2 g3
    simp +contextual (maxSteps := 2000000) (disch := ((try unfold LIM at *); omega)) only [↓bcT, ↓bcF, WA, simprocAttr, wrI, insV, g1, g2, List.length_map, pi, c2, cast_succ]
    exact ⟨i + 1, ⟨by omega, by omega⟩, [0], by simp, ⟨.inl ⟨g3, rfl⟩, trivial⟩, by simp +contextual (maxSteps := 2000000) (disch := ((try unfold LIM at *); omega)) only [↓bcT, ↓bcF, WA, simprocAttr, wrI, nm_at]⟩
  · have e : i = l.length := by omega
    subst e
    have g4 : (l.take l.length).map insV ++ List.replicate (l.length - l.length) [V.s (.int .i64 0), .s (.int .i64 0)] = l.map insV := by simp
    have g5 : ((l.map insV).map fun el => el.map (frz 0 5 [⟨l.map insV, 2, l.length, true⟩])) = l.map insV := frz_els (nrs_map (fun _ => rfl) l) (leafs_map (fun _ => rfl) l)
    have g6 : (l.map insV).take l.length = l.map insV := List.take_of_length_le (by simp)
    simp +contextual (maxSteps := 2000000) (disch := ((try unfold LIM at *); omega)) only [↓bcT, ↓bcF, WA, simprocAttr, wrI, List.length_map, hl', c2, g4, g5, g6]
theorem walk44 (f : IFun) (h1 : f.args.length ≤ 1048576) (h2 : f.code.length ≤ 1048576) : PureV C 44 [.agg (fnV f)] (.agg (fnV f)) := by
  refine pure_of_run Tryz.func44 rfl (by kernel_rfl) (by kernel_rfl) (by simp) (fun _ => rfl) (fun _ => rfl) 6 1000 ?_
  simp +contextual (maxSteps := 2000000) (disch := ((try unfold LIM at *); omega)) only [↓bcT, ↓bcF, WA, simprocAttr, wrI, fnV]
  refine CallThen.pure (walk27 f.args h1) 1000 ?_
  simp +contextual (maxSteps := 2000000) (disch := ((try unfold LIM at *); omega)) only [↓bcT, ↓bcF, WA, simprocAttr, wrI]
  refine CallThen.pure (walk62 f.code h2) 1000 ?_
  simp +contextual (maxSteps := 2000000) (disch := ((try unfold LIM at *); omega)) only [↓bcT, ↓bcF, WA, simprocAttr, wrI]
theorem walk26 (l : List IFun) (hl : l.length ≤ 1048576) (hf2 : ∀ f ∈ l, f.args.length ≤ 1048576 ∧ f.code.length ≤ 1048576) : PureV C 26 [.f 6 (l.map fnV)] (.f 6 (l.map fnV)) := by
  refine pure_of_run Tryz.func26 rfl (by kernel_rfl) (by kernel_rfl) (by simp) (fun _ => rfl) (fun _ => rfl) 6 1000 ?_
  have z1 := fun n => nrs_replicate (el := [V.s (.string ⟨#[]⟩), .s (.string ⟨#[]⟩), .z, .s (.int .i64 0), .s (.int .i64 0), .z]) rfl n
  have b0 : (0 : Int) ≤ l.length := by omega
  have b1 : (96 : Int) * l.length ≤ 140737488355328 := by omega
  have b2 : (l.length : Int) ≤ 4611686018427387904 := by omega
  simp +contextual (maxSteps := 2000000) (disch := ((try unfold LIM at *); omega)) only [↓bcT, ↓bcF, WA, simprocAttr, wrI, List.length_map, b0, b1, b2, Int.le_refl]
  intro hl'
  refine LoopThen.own (ι := Nat) (fun i => i ≤ l.length) (fun i => [(0, .f 6 (l.map fnV)), (3, .sl 0 0 l.length l.length), (4, .s (.int .i64 i))]) (fun i => [⟨(l.take i).map fnV ++ List.replicate (l.length - i) [V.s (.string ⟨#[]⟩), .s (.string ⟨#[]⟩), .z, .s (.int .i64 0), .s (.int .i64 0), .z], 6, l.length, true⟩]) (fun i => l.length - i)
    1000 1000 ⟨0, Nat.zero_le _, [0], by simp, by simp +contextual (maxSteps := 2000000) (disch := ((try unfold LIM at *); omega)) only [↓bcT, ↓bcF, WA, simprocAttr, wrI, z1, Nat.sub_zero, true_or], by simp +contextual (maxSteps := 2000000) (disch := ((try unfold LIM at *); omega)) only [↓bcT, ↓bcF, WA, simprocAttr, wrI]⟩ ?_
  intro i p1
  by_cases c2 : (i : Int) < l.length
  · obtain ⟨f, hf⟩ := get_lt c2
    have pi : (0 : Int) ≤ i := by omega
    obtain ⟨k, hk⟩ : ∃ k, l.length - i = k + 1 := ⟨l.length - i - 1, by omega⟩
    have hl1 : ((l.take i).map fnV).length = i := by simp; omega
    have g1 : ((l.take i).map fnV ++ List.replicate (l.length - i) [V.s (.string ⟨#[]⟩), .s (.string ⟨#[]⟩), .z, .s (.int .i64 0), .s (.int .i64 0), .z])[i]? = some [V.s (.string ⟨#[]⟩), .s (.string ⟨#[]⟩), .z, .s (.int .i64 0), .s (.int .i64 0), .z] := by rw [fill_get _ _ hl1, hk]; rfl
    have g2 : ((l.take i).map fnV ++ List.replicate (l.length - i) [V.s (.string ⟨#[]⟩), .s (.string ⟨#[]⟩), .z, .s (.int .i64 0), .s (.int .i64 0), .z]).set i (fnV f) = (l.take (i + 1)).map fnV ++ List.replicate (l.length - (i + 1)) [V.s (.string ⟨#[]⟩), .s (.string ⟨#[]⟩), .z, .s (.int .i64 0), .s (.int .i64 0), .z] := by
      rw [hk, fill_set _ _ _ _ _ hl1, List.take_add_one, hf, show l.length - (i + 1) = k by omega]; simp
    have g3 : nrs ((l.take (i + 1)).map fnV ++ List.replicate (l.length - (i + 1)) [V.s (.string ⟨#[]⟩), .s (.string ⟨#[]⟩), .z, .s (.int .i64 0), .s (.int .i64 0), .z]) = true := by rw [nrs_append, nrs_map (fun _ => rfl), z1]; rfl
    simp +contextual (maxSteps := 2000000) (disch := ((try unfold LIM at *); omega)) only [↓bcT, ↓bcF, WA, simprocAttr, wrI, List.length_map, hl', c2, hf, pi, fnV, g1]
    have hff := hf2 f (List.mem_of_getElem? hf)
    refine CallThen.pure (walk44 f hff.1 hff.2) 1000 ?_
    simp only [fnV] at g2 g3
    simp +contextual (maxSteps := 2000000) (disch := ((try unfold LIM at *); omega)) only [↓bcT, ↓bcF, WA, simprocAttr, wrI, fnV, g1, g2, List.length_map, pi, c2, cast_succ]
    exact ⟨i + 1, ⟨by omega, by omega⟩, [0], by simp, ⟨.inl ⟨g3, rfl⟩, trivial⟩, by simp +contextual (maxSteps := 2000000) (disch := ((try unfold LIM at *); omega)) only [↓bcT, ↓bcF, WA, simprocAttr, wrI, nm_at]⟩
  · have e : i = l.length := by omega
    subst e
    have g4 : (l.take l.length).map fnV ++ List.replicate (l.length - l.length) [V.s (.string ⟨#[]⟩), .s (.string ⟨#[]⟩), .z, .s (.int .i64 0), .s (.int .i64 0), .z] = l.map fnV := by simp
    have g5 : ((l.map fnV).map fun el => el.map (frz 0 5 [⟨l.map fnV, 6, l.length, true⟩])) = l.map fnV := frz_els (nrs_map (fun _ => rfl) l) (leafs_map (fun _ => rfl) l)
    have g6 : (l.map fnV).take l.length = l.map fnV := List.take_of_length_le (by simp)
    simp +contextual (maxSteps := 2000000) (disch := ((try unfold LIM at *); omega)) only [↓bcT, ↓bcF, WA, simprocAttr, wrI, List.length_map, hl', c2, g4, g5, g6]
theorem walk8 (m : Img) (h1 : m.funs.length ≤ 1048576) (h2 : m.mains.length ≤ 1048576) (h3 : ∀ f ∈ m.funs, f.args.length ≤ 1048576 ∧ f.code.length ≤ 1048576) : PureV C 8 [.agg (imgV m)] (.agg (imgV m)) := by
  refine pure_of_run Tryz.func8 rfl (by kernel_rfl) (by kernel_rfl) (by simp) (fun _ => rfl) (fun _ => rfl) 6 1000 ?_
  simp +contextual (maxSteps := 2000000) (disch := ((try unfold LIM at *); omega)) only [↓bcT, ↓bcF, WA, simprocAttr, wrI, imgV]
  refine CallThen.pure (walk26 m.funs h1 h3) 1000 ?_
  simp +contextual (maxSteps := 2000000) (disch := ((try unfold LIM at *); omega)) only [↓bcT, ↓bcF, WA, simprocAttr, wrI]
  refine CallThen.pure (walk27 m.mains h2) 1000 ?_
  simp +contextual (maxSteps := 2000000) (disch := ((try unfold LIM at *); omega)) only [↓bcT, ↓bcF, WA, simprocAttr, wrI]
end Go.Proofs.YtlhkfjannhhcbaaGreatDoor
/- part B18 -/
set_option linter.unusedVariables false
set_option linter.unusedSimpArgs false
set_option maxRecDepth 100000
namespace Go.Proofs.YtlhkfjannhhcbaaGreatDoor
open Go Go.W Go.RowKit
theorem walk10 (l : List Int) : PureV C 10 [.f 1 (l.map iV), .f 1 (l.map iV)] (.s (.bool true)) := by
  refine pure_of_run Tryz.func10 rfl (by kernel_rfl) (by kernel_rfl) (by simp) (fun _ => rfl) (fun _ => rfl) 6 1000 ?_
  simp +contextual (maxSteps := 2000000) (disch := ((try unfold LIM at *); omega)) only [↓bcT, ↓bcF, WA, simprocAttr, wrI, List.length_map]
  intro _
  refine LoopThen.pure (ι := Nat) (fun i => i ≤ l.length) (fun i => keepL [(0, .f 1 (l.map iV)), (1, .f 1 (l.map iV)), (5, .s (.int .i64 i))]) (fun i => l.length - i)
    6 [0, 1, 5] 1000 1000 ⟨0, by omega, by simp +contextual (maxSteps := 2000000) (disch := ((try unfold LIM at *); omega)) only [↓bcT, ↓bcF, WA, simprocAttr, wrI]⟩ ?_
  intro i p1
  by_cases c2 : (i : Int) < l.length
  · obtain ⟨f, hf⟩ := get_lt c2
    have pi : (0 : Int) ≤ i := by omega
    have hfv : (l.map iV)[i]? = some (iV f) := by rw [List.getElem?_map, hf]; rfl
    simp +contextual (maxSteps := 2000000) (disch := ((try unfold LIM at *); omega)) only [↓bcT, ↓bcF, WA, simprocAttr, wrI, List.length_map, c2]
    refine fun _ => DrawThen.of 1000 [] (.old 0 (.old 1 (.old 2 (.old 3 (.old 4 (.old 5 (.old 6 (.old 7 (.old 8 .done))))))))) (panFree_loopP (panFree_pure _ _ _)) (by kernel_rfl) (by kernel_rfl) (by kernel_rfl) ?_
    simp +contextual (maxSteps := 2000000) (disch := ((try unfold LIM at *); omega)) only [↓bcT, ↓bcF, WA, simprocAttr, wrI, List.length_map, c2, hfv, pi, iV, cast_succ]
    exact ⟨i + 1, ⟨by omega, by omega⟩, rfl⟩
  · have e : i = l.length := by omega
    subst e
    simp +contextual (maxSteps := 2000000) (disch := ((try unfold LIM at *); omega)) only [↓bcT, ↓bcF, WA, simprocAttr, wrI, List.length_map, c2]
theorem walk108 (x : Ins) : PureV C 108 [.agg (insV x), .agg (insV x)] (.s (.bool true)) := by
  refine pure_of_run Tryz.func108 rfl (by kernel_rfl) (by kernel_rfl) (by simp) (fun _ => rfl) (fun _ => rfl) 6 1000 ?_
  simp +contextual (maxSteps := 2000000) (disch := ((try unfold LIM at *); omega)) only [↓bcT, ↓bcF, WA, simprocAttr, wrI, insV]
theorem walk74 (l : List Ins) : PureV C 74 [.f 2 (l.map insV), .f 2 (l.map insV)] (.s (.bool true)) := by
  refine pure_of_run Tryz.func74 rfl (by kernel_rfl) (by kernel_rfl) (by simp) (fun _ => rfl) (fun _ => rfl) 6 1000 ?_
  simp +contextual (maxSteps := 2000000) (disch := ((try unfold LIM at *); omega)) only [↓bcT, ↓bcF, WA, simprocAttr, wrI, List.length_map]
  intro _
  refine LoopThen.pure (ι := Nat) (fun i => i ≤ l.length) (fun i => keepL [(0, .f 2 (l.map insV)), (1, .f 2 (l.map insV)), (5, .s (.int .i64 i))]) (fun i => l.length - i)
    6 [0, 1, 5] 1000 1000 ⟨0, by omega, by simp +contextual (maxSteps := 2000000) (disch := ((try unfold LIM at *); omega)) only [↓bcT, ↓bcF, WA, simprocAttr, wrI]⟩ ?_
  intro i p1
  by_cases c2 : (i : Int) < l.length
  · obtain ⟨f, hf⟩ := get_lt c2
    have pi : (0 : Int) ≤ i := by omega
    have hfv : (l.map insV)[i]? = some (insV f) := by rw [List.getElem?_map, hf]; rfl
    simp +contextual (maxSteps := 2000000) (disch := ((try unfold LIM at *); omega)) only [↓bcT, ↓bcF, WA, simprocAttr, wrI, List.length_map, c2]
    intro _
    refine DrawThen.of 1000 [] (.old 0 (.old 1 (.old 2 (.old 3 (.old 4 (.old 5 (.old 6 (.old 7 (.go 8 (.new 9 .done)))))))))) (panFree_loopP (panFree_pure _ _ _)) (by kernel_rfl) (by kernel_rfl) (by kernel_rfl) ?_
    simp +contextual (maxSteps := 2000000) (disch := ((try unfold LIM at *); omega)) only [↓bcT, ↓bcF, WA, simprocAttr, wrI, List.length_map, c2, hfv, pi, insV, cast_succ]
    refine DCall.pure (walk108 f) 1000 (.new 9 .done) (by kernel_rfl) ?_
    simp +contextual (maxSteps := 2000000) (disch := ((try unfold LIM at *); omega)) only [↓bcT, ↓bcF, WA, simprocAttr, wrI, cast_succ]
    try simp +contextual (maxSteps := 2000000) (disch := ((try unfold LIM at *); omega)) only [↓bcT, ↓bcF, WA, simprocAttr, wrI, List.length_map, c2, hfv, pi, insV, cast_succ]
    skip
    exact ⟨i + 1, ⟨by omega, by omega⟩, rfl⟩
  · have e : i = l.length := by omega
    subst e
    simp +contextual (maxSteps := 2000000) (disch := ((try unfold LIM at *); omega)) only [↓bcT, ↓bcF, WA, simprocAttr, wrI, List.length_map, c2]
theorem walk50 (f : IFun) : PureV C 50 [.agg (fnV f), .agg (fnV f)] (.s (.bool true)) := by
  refine pure_of_run Tryz.func50 rfl (by kernel_rfl) (by kernel_rfl) (by simp) (fun _ => rfl) (fun _ => rfl) 6 1000 ?_
  simp +contextual (maxSteps := 2000000) (disch := ((try unfold LIM at *); omega)) only [↓bcT, ↓bcF, WA, simprocAttr, wrI, fnV]
  refine CallThen.pure (walk10 f.args) 1000 ?_
  simp +contextual (maxSteps := 2000000) (disch := ((try unfold LIM at *); omega)) only [↓bcT, ↓bcF, WA, simprocAttr, wrI]
  refine CallThen.pure (walk74 f.code) 1000 ?_
  simp +contextual (maxSteps := 2000000) (disch := ((try unfold LIM at *); omega)) only [↓bcT, ↓bcF, WA, simprocAttr, wrI]
theorem walk31 (l : List IFun) : PureV C 31 [.f 6 (l.map fnV), .f 6 (l.map fnV)] (.s (.bool true)) := by
  refine pure_of_run Tryz.func31 rfl (by kernel_rfl) (by kernel_rfl) (by simp) (fun _ => rfl) (fun _ => rfl) 6 1000 ?_
  simp +contextual (maxSteps := 2000000) (disch := ((try unfold LIM at *); omega)) only [↓bcT, ↓bcF, WA, simprocAttr, wrI, List.length_map]
  intro _
  refine LoopThen.pure (ι := Nat) (fun i => i ≤ l.length) (fun i => keepL [(0, .f 6 (l.map fnV)), (1, .f 6 (l.map fnV)), (5, .s (.int .i64 i))]) (fun i => l.length - i)
    6 [0, 1, 5] 1000 1000 ⟨0, by omega, by simp +contextual (maxSteps := 2000000) (disch := ((try unfold LIM at *); omega)) only [↓bcT, ↓bcF, WA, simprocAttr, wrI]⟩ ?_
  intro i p1
  by_cases c2 : (i : Int) < l.length
  · obtain ⟨f, hf⟩ := get_lt c2
    have pi : (0 : Int) ≤ i := by omega
    have hfv : (l.map fnV)[i]? = some (fnV f) := by rw [List.getElem?_map, hf]; rfl
    simp +contextual (maxSteps := 2000000) (disch := ((try unfold LIM at *); omega)) only [↓bcT, ↓bcF, WA, simprocAttr, wrI, List.length_map, c2]
    intro _
    refine DrawThen.of 1000 [] (.old 0 (.old 1 (.old 2 (.old 3 (.old 4 (.old 5 (.old 6 (.old 7 (.go 8 (.new 9 .done)))))))))) (panFree_loopP (panFree_pure _ _ _)) (by kernel_rfl) (by kernel_rfl) (by kernel_rfl) ?_
    simp +contextual (maxSteps := 2000000) (disch := ((try unfold LIM at *); omega)) only [↓bcT, ↓bcF, WA, simprocAttr, wrI, List.length_map, c2, hfv, pi, fnV, cast_succ]
    refine DCall.pure (walk50 f) 1000 (.new 9 .done) (by kernel_rfl) ?_
    simp +contextual (maxSteps := 2000000) (disch := ((try unfold LIM at *); omega)) only [↓bcT, ↓bcF, WA, simprocAttr, wrI, cast_succ]
    try simp +contextual (maxSteps := 2000000) (disch := ((try unfold LIM at *); omega)) only [↓bcT, ↓bcF, WA, simprocAttr, wrI, List.length_map, c2, hfv, pi, fnV, cast_succ]
    skip
    exact ⟨i + 1, ⟨by omega, by omega⟩, rfl⟩
  · have e : i = l.length := by omega
    subst e
    simp +contextual (maxSteps := 2000000) (disch := ((try unfold LIM at *); omega)) only [↓bcT, ↓bcF, WA, simprocAttr, wrI, List.length_map, c2]
theorem walk11 (m : Img) : PureV C 11 [.agg (imgV m), .agg (imgV m)] (.s (.bool true)) := by
  refine pure_of_run Tryz.func11 rfl (by kernel_rfl) (by kernel_rfl) (by simp) (fun _ => rfl) (fun _ => rfl) 6 1000 ?_
  simp +contextual (maxSteps := 2000000) (disch := ((try unfold LIM at *); omega)) only [↓bcT, ↓bcF, WA, simprocAttr, wrI, imgV]
  refine CallThen.pure (walk31 m.funs) 1000 ?_
  simp +contextual (maxSteps := 2000000) (disch := ((try unfold LIM at *); omega)) only [↓bcT, ↓bcF, WA, simprocAttr, wrI]
  refine CallThen.pure (walk10 m.mains) 1000 ?_
  simp +contextual (maxSteps := 2000000) (disch := ((try unfold LIM at *); omega)) only [↓bcT, ↓bcF, WA, simprocAttr, wrI]
end Go.Proofs.YtlhkfjannhhcbaaGreatDoor
/- part B19 -/
set_option linter.unusedVariables false
set_option linter.unusedSimpArgs false
set_option maxRecDepth 100000
namespace Go.Proofs.YtlhkfjannhhcbaaGreatDoor
open Go Go.W Go.RowKit
theorem fzss_iV (l : List Int) : fzss (l.map iV) = l.map iV := by
  rw [fzss_map, List.map_map]; exact List.map_congr_left fun b _ => rfl
end Go.Proofs.YtlhkfjannhhcbaaGreatDoor
/- part B20 -/
set_option linter.unusedVariables false
set_option linter.unusedSimpArgs false
set_option maxRecDepth 100000
namespace Go.Proofs.YtlhkfjannhhcbaaGreatDoor
open Go Go.W Go.RowKit
def digT (n : Nat) (acc : ByteArray) : ByteArray := if n = 0 then acc else digT (n / 10) (⟨#[UInt8.ofNat (48 + n % 10)]⟩ ++ acc)
termination_by n
decreasing_by omega
def markT (k : Int) : ByteArray := if k ≤ 0 then ⟨#[109, 48]⟩ else ⟨#[109]⟩ ++ digT k.toNat ⟨#[]⟩
theorem walk51 (k : Int) (hk : k ≤ 9223372036854775807) : PureV C 51 [.s (.int .i64 k)] (.s (.string (markT k))) := by
  refine pure_of_run Tryz.func51 rfl (by kernel_rfl) (by kernel_rfl) (by simp) (fun _ => rfl) (fun _ => rfl) 6 1000 ?_
  by_cases c : k ≤ 0
  · simp +contextual (maxSteps := 2000000) (disch := ((try unfold LIM at *); omega)) only [↓bcT, ↓bcF, WA, simprocAttr, wrI, c, markT]
  simp +contextual (maxSteps := 2000000) (disch := ((try unfold LIM at *); omega)) only [↓bcT, ↓bcF, WA, simprocAttr, wrI, c, markT]
  refine LoopThen.pure (ι := Nat × ByteArray) (fun p => digT p.1 p.2 = digT k.toNat ⟨#[]⟩ ∧ p.1 * 10 ^ p.2.size ≤ k.toNat ∧ p.2.size ≤ 19) (fun p => keepL [(0, .s (.int .i64 p.1)), (3, .s (.string p.2))]) (fun p => p.1) 6 [0, 3] 1000 1000
    ⟨(k.toNat, ⟨#[]⟩), ⟨rfl, by show k.toNat * 10 ^ 0 ≤ _; simp, Nat.zero_le _⟩, by have e : (k.toNat : Int) = k := Int.toNat_of_nonneg (by omega); simp +contextual (maxSteps := 2000000) (disch := ((try unfold LIM at *); omega)) only [↓bcT, ↓bcF, WA, simprocAttr, wrI, e]⟩ ?_
  rintro ⟨n, acc⟩ ⟨p1, p2, p3⟩
  simp only at p1 p2 p3
  by_cases d : (0 : Int) < n
  · have hsz : acc.size < 19 := by
      have h2 : 1 * 10 ^ acc.size ≤ n * 10 ^ acc.size := Nat.mul_le_mul_right _ (by omega)
      have h3 : 10 ^ acc.size < 10 ^ 19 := by omega
      exact (Nat.pow_lt_pow_iff_right (by omega)).1 h3
    have hn : n * 1 ≤ n * 10 ^ acc.size := Nat.mul_le_mul_left _ (Nat.pos_of_ne_zero (by simp))
    have e1 : (n : Int).tmod 10 = ((n % 10 : Nat) : Int) := by rw [Int.tmod_eq_emod_of_nonneg (by omega)]; omega
    have e2 : (n : Int).tdiv 10 = ((n / 10 : Nat) : Int) := by rw [Int.tdiv_eq_ediv_of_nonneg (by omega)]; omega
    have e3 : IntKind.i64.wrap (48 + ((n % 10 : Nat) : Int)) = ((48 + n % 10 : Nat) : Int) := by rw [wrap_i64 (by omega) (by omega)]; omega
    have e4 : IntKind.u8.wrap ((48 + n % 10 : Nat) : Int) = ((48 + n % 10 : Nat) : Int) := by
      unfold IntKind.wrap
      exact Int.emod_eq_of_lt (by omega) (by simp [IntKind.bits]; omega)
    have e5 : IntKind.i64.wrap ((n / 10 : Nat) : Int) = ((n / 10 : Nat) : Int) := wrap_i64 (by omega) (by omega)
    have hz : (⟨#[UInt8.ofNat (48 + n % 10)]⟩ : ByteArray).size = 1 := rfl
    have e6 : (⟨#[UInt8.ofNat (48 + n % 10)]⟩ : ByteArray).size + acc.size ≤ LIM := by rw [hz]; unfold LIM; omega
    have e7 : (0 : Int) ≤ ((48 + n % 10 : Nat) : Int) ∧ ((48 + n % 10 : Nat) : Int) < 256 := by omega
    simp +contextual (maxSteps := 2000000) (disch := ((try unfold LIM at *); omega)) only [↓bcT, ↓bcF, WA, simprocAttr, wrI, d, e1, e2, e3, e4, e5, Int.toNat_natCast, e6, e7]
    refine ⟨(n / 10, ⟨#[UInt8.ofNat (48 + n % 10)]⟩ ++ acc), ⟨⟨?_, ?_, ?_⟩, by simp only; omega⟩, rfl⟩
    · rw [← p1]; conv => rhs; rw [digT]
      rw [if_neg (by omega)]
    · rw [ByteArray.size_append, hz, Nat.pow_add]
      calc n / 10 * (10 ^ 1 * 10 ^ acc.size) = (n / 10 * 10) * 10 ^ acc.size := by rw [Nat.pow_one, Nat.mul_assoc]
        _ ≤ n * 10 ^ acc.size := Nat.mul_le_mul_right _ (by omega)
        _ ≤ k.toNat := p2
    · rw [ByteArray.size_append, hz]; omega
  · have e : n = 0 := by omega
    subst e
    have e6 : (⟨#[109]⟩ : ByteArray).size + acc.size ≤ LIM := by
      have hz : (⟨#[109]⟩ : ByteArray).size = 1 := rfl
      rw [hz]; unfold LIM; omega
    have e8 : digT k.toNat ⟨#[]⟩ = acc := by rw [← p1, digT]; rfl
    simp +contextual (maxSteps := 2000000) (disch := ((try unfold LIM at *); omega)) only [↓bcT, ↓bcF, WA, simprocAttr, wrI, d, e6, e8]
def mkI (k : Int) (i : Nat) : List Int := (List.range i).map fun (j : Nat) => k + (j : Int)
theorem mkI_len (k : Int) (i : Nat) : (mkI k i).length = i := by simp [mkI]
theorem mkI_zero (k : Int) : mkI k 0 = [] := rfl
theorem mkI_succ (k : Int) (i : Nat) : mkI k (i + 1) = mkI k i ++ [k + (i : Int)] := by simp [mkI, List.range_succ]
theorem mkI_get {k : Int} {n i : Nat} (h : (i : Int) < n) : (mkI k n)[i]? = some (k + (i : Int)) := by
  have : i < n := by omega
  simp [mkI, List.getElem?_range, this]
theorem walk13 (l : List Int) (k : Int) (cap : Nat) (hl : l.length ≤ 1048576) (hc : l.length ≤ cap) (h0 : 0 ≤ k) (h1 : k ≤ 1000000000) :
    EditV C 13 [.sl 0 0 l.length cap, .s (.int .i64 k)] [⟨l.map iV, 1, cap, true⟩] (.s (.int .i64 (k + l.length))) [⟨(mkI k l.length).map iV, 1, cap, true⟩] := by
  have enr : ∀ x, (iV x).all nr = true := fun _ => rfl
  refine ⟨fun _ => rfl, by simp [nrs_map enr], ?_⟩
  refine calls_of_run Tryz.func13 rfl (by kernel_rfl) (by kernel_rfl) (by simp) 1000 ?_
  simp +contextual (maxSteps := 2000000) (disch := ((try unfold LIM at *); omega)) only [↓bcT, ↓bcF, WA, simprocAttr, wrI]
  refine LoopThen.ownN 1 (ι := Nat) (fun i => i ≤ l.length) (fun i => [(0, .sl 0 0 l.length cap), (1, .s (.int .i64 (k + (i : Int)))), (5, .s (.int .i64 i))]) (fun i => [⟨(mkI k i).map iV ++ (l.drop i).map iV, 1, cap, true⟩]) (fun i => l.length - i) 1000 1000
    ⟨0, Nat.zero_le _, [0], by simp, by simp +contextual (maxSteps := 2000000) (disch := ((try unfold LIM at *); omega)) only [↓bcT, ↓bcF, WA, simprocAttr, wrI, mkI_zero, nrs_map enr, true_or, List.map_nil, List.nil_append, List.drop_zero, WB8], by simp +contextual (maxSteps := 2000000) (disch := ((try unfold LIM at *); omega)) only [↓bcT, ↓bcF, WA, simprocAttr, wrI, Int.mul_zero, Int.add_zero, Int.natCast_zero]⟩ ?_
  rintro i p1
  by_cases d : (i : Int) < l.length
  · obtain ⟨f, hf⟩ := get_lt d
    have pi : (0 : Int) ≤ i := by omega
    have la : ((mkI k i).map iV).length = i := by rw [List.length_map, mkI_len]
    have g1 : ∀ y (X : List (List V)), ((mkI k i).map iV ++ y :: X)[i]? = some y := fun y X => mid_get la
    have g2 : ∀ x y (X : List (List V)), ((mkI k i).map iV ++ y :: X).set i x = (mkI k i).map iV ++ x :: X := fun x y X => mid_set la
    have ez : k + (i : Int) + 1 = k + ((i + 1 : Nat) : Int) := by omega
    rw [drop_cons hf, List.map_cons]
    simp +contextual (maxSteps := 2000000) (disch := ((try unfold LIM at *); omega)) only [↓bcT, ↓bcF, WA, simprocAttr, wrI, WB8, d, pi, g1, g2, iV, List.set_cons_zero, List.set_cons_succ, cast_succ, ez]
    exact ⟨i + 1, ⟨by omega, by omega⟩, [0], ⟨by simp, rfl⟩, ⟨.inl ⟨by simp only [nrs_append, nrs_map enr, Bool.and_self], by rw [mkI_succ]; simp [iV]⟩, trivial⟩, rfl, rfl, rfl⟩
  · have e : i = l.length := by omega
    subst e
    simp +contextual (maxSteps := 2000000) (disch := ((try unfold LIM at *); omega)) only [↓bcT, ↓bcF, WA, simprocAttr, wrI, WB8, d]
    exact Up.keep [⟨(mkI k l.length).map iV, 1, cap, true⟩] (fun _ => rfl) rfl (by show gcL _ _ [0] _; exact ⟨.inl ⟨nrs_map enr _, by simp⟩, trivial⟩) ⟨rfl, rfl⟩
def mkC (k : Int) (i : Nat) : List Ins := (List.range i).map fun (j : Nat) => ⟨k + 2 * (j : Int), k + 2 * (j : Int) + 1⟩
theorem mkC_len (k : Int) (i : Nat) : (mkC k i).length = i := by simp [mkC]
theorem mkC_zero (k : Int) : mkC k 0 = [] := rfl
theorem mkC_succ (k : Int) (i : Nat) : mkC k (i + 1) = mkC k i ++ [⟨k + 2 * (i : Int), k + 2 * (i : Int) + 1⟩] := by simp [mkC, List.range_succ]
theorem walk52 (l : List Ins) (k : Int) (cap : Nat) (hl : l.length ≤ 1048576) (hc : l.length ≤ cap) (h0 : 0 ≤ k) (h1 : k ≤ 1000000000) :
    EditV C 52 [.sl 0 0 l.length cap, .s (.int .i64 k)] [⟨l.map insV, 2, cap, true⟩] (.s (.int .i64 (k + 2 * l.length))) [⟨(mkC k l.length).map insV, 2, cap, true⟩] := by
  have enr : ∀ x, (insV x).all nr = true := fun _ => rfl
  refine ⟨fun _ => rfl, by simp [nrs_map enr], ?_⟩
  refine calls_of_run Tryz.func52 rfl (by kernel_rfl) (by kernel_rfl) (by simp) 1000 ?_
  simp +contextual (maxSteps := 2000000) (disch := ((try unfold LIM at *); omega)) only [↓bcT, ↓bcF, WA, simprocAttr, wrI]
  refine LoopThen.ownN 1 (ι := Nat) (fun i => i ≤ l.length) (fun i => [(0, .sl 0 0 l.length cap), (1, .s (.int .i64 (k + 2 * i))), (5, .s (.int .i64 i))]) (fun i => [⟨(mkC k i).map insV ++ (l.drop i).map insV, 2, cap, true⟩]) (fun i => l.length - i) 1000 1000
    ⟨0, Nat.zero_le _, [0], by simp, by simp +contextual (maxSteps := 2000000) (disch := ((try unfold LIM at *); omega)) only [↓bcT, ↓bcF, WA, simprocAttr, wrI, mkC_zero, nrs_map enr, true_or, List.map_nil, List.nil_append, List.drop_zero, WB8], by simp +contextual (maxSteps := 2000000) (disch := ((try unfold LIM at *); omega)) only [↓bcT, ↓bcF, WA, simprocAttr, wrI, Int.mul_zero, Int.add_zero, Int.natCast_zero]⟩ ?_
  rintro i p1
  by_cases d : (i : Int) < l.length
  · obtain ⟨f, hf⟩ := get_lt d
    have pi : (0 : Int) ≤ i := by omega
    have la : ((mkC k i).map insV).length = i := by rw [List.length_map, mkC_len]
    have g1 : ∀ y (X : List (List V)), ((mkC k i).map insV ++ y :: X)[i]? = some y := fun y X => mid_get la
    have g2 : ∀ x y (X : List (List V)), ((mkC k i).map insV ++ y :: X).set i x = (mkC k i).map insV ++ x :: X := fun x y X => mid_set la
    have ez : k + 2 * (i : Int) + 1 + 1 = k + 2 * ((i + 1 : Nat) : Int) := by omega
    rw [drop_cons hf, List.map_cons]
    simp +contextual (maxSteps := 2000000) (disch := ((try unfold LIM at *); omega)) only [↓bcT, ↓bcF, WA, simprocAttr, wrI, WB8, d, pi, g1, g2, insV, List.set_cons_zero, List.set_cons_succ, cast_succ, ez]
    exact ⟨i + 1, ⟨by omega, by omega⟩, [0], ⟨by simp, rfl⟩, ⟨.inl ⟨by simp only [nrs_append, nrs_map enr, Bool.and_self], by rw [mkC_succ]; simp [insV]⟩, trivial⟩, rfl, rfl, rfl⟩
  · have e : i = l.length := by omega
    subst e
    simp +contextual (maxSteps := 2000000) (disch := ((try unfold LIM at *); omega)) only [↓bcT, ↓bcF, WA, simprocAttr, wrI, WB8, d]
    exact Up.keep [⟨(mkC k l.length).map insV, 2, cap, true⟩] (fun _ => rfl) rfl (by show gcL _ _ [0] _; exact ⟨.inl ⟨nrs_map enr _, by simp⟩, trivial⟩) ⟨rfl, rfl⟩
theorem walk14 (k : Int) (n : Nat) (hl : n ≤ 1048576) (h0 : 0 ≤ k) (h1 : k ≤ 1000000000) : PureV C 14 [.f 1 ((mkI k n).map iV), .s (.int .i64 k)] (.s (.int .i64 (k + n))) := by
  refine pure_of_run Tryz.func14 rfl (by kernel_rfl) (by kernel_rfl) (by simp) (fun _ => rfl) (fun _ => rfl) 6 1000 ?_
  simp +contextual (maxSteps := 2000000) (disch := ((try unfold LIM at *); omega)) only [↓bcT, ↓bcF, WA, simprocAttr, wrI]
  refine LoopThen.pure (ι := Nat) (fun i => i ≤ n) (fun i => keepL [(0, .f 1 ((mkI k n).map iV)), (1, .s (.int .i64 (k + i))), (5, .s (.int .i64 i))]) (fun i => n - i) 6 [0, 1, 5] 1000 1000 ⟨0, Nat.zero_le _, by simp +contextual (maxSteps := 2000000) (disch := ((try unfold LIM at *); omega)) only [↓bcT, ↓bcF, WA, simprocAttr, wrI, Int.add_zero, Int.natCast_zero]⟩ ?_
  rintro i p1
  by_cases d : (i : Int) < n
  · have pi : (0 : Int) ≤ i := by omega
    have hm := mkI_get (k := k) d
    have ez : k + (i : Int) + 1 = k + ((i + 1 : Nat) : Int) := by omega
    simp +contextual (maxSteps := 2000000) (disch := ((try unfold LIM at *); omega)) only [↓bcT, ↓bcF, WA, simprocAttr, wrI, List.length_map, mkI_len, d, pi, hm, iV, bne_self_eq_false, cast_succ, ez]
    exact fun _ => ⟨i + 1, ⟨by omega, by omega⟩, rfl⟩
  · have e : i = n := by omega
    subst e
    simp +contextual (maxSteps := 2000000) (disch := ((try unfold LIM at *); omega)) only [↓bcT, ↓bcF, WA, simprocAttr, wrI, List.length_map, mkI_len, d]
def fnL (f : IFun) : List V := [.s (.string f.mod), .s (.string f.name), .l 1 (f.args.map iV), .s (.int .i64 f.typ), .s (.int .i64 f.slots), .l 2 (f.code.map insV)]
theorem fnL_nr (f : IFun) : (fnL f).all nr = true := rfl
theorem insV_nr (x : Ins) : (insV x).all nr = true := rfl
def tot1 (f : IFun) : Nat := 4 + f.args.length + 2 * f.code.length
def totF : List IFun → Nat
  | [] => 0
  | f :: l => tot1 f + totF l
theorem totF_append : ∀ (a b : List IFun), totF (a ++ b) = totF a + totF b
  | [], b => by simp [totF]
  | r :: a, b => by simp only [List.cons_append, totF, totF_append a b]; omega
theorem totF_take {l : List IFun} {i : Nat} {f : IFun} (h : l[i]? = some f) : totF (l.take (i + 1)) = totF (l.take i) + tot1 f := by
  rw [List.take_add_one, h, totF_append]; simp [totF]
theorem totF_le (l : List IFun) (i : Nat) : totF (l.take i) ≤ totF l := by
  conv => rhs; rw [← List.take_append_drop i l, totF_append]
  omega
def mkF (k : Int) (f : IFun) : IFun := ⟨markT k, markT (k + 1), mkI (k + 1 + 1) f.args.length, k + 1 + 1 + f.args.length, k + 1 + 1 + f.args.length + 1, mkC (k + 1 + 1 + f.args.length + 1 + 1) f.code.length⟩
theorem walk32 (l : List IFun) (k : Int) (cap : Nat) (hl : l.length ≤ 1048576) (hf : ∀ f ∈ l, f.args.length ≤ 1048576 ∧ f.code.length ≤ 1048576) (hc : l.length ≤ cap) (h0 : 0 ≤ k) (h1 : k + totF l ≤ 900000000) :
    CallsV C 32 [.sl 0 0 l.length cap, .s (.int .i64 k)] [⟨l.map fnL, 6, cap, true⟩] fun res h' => res = .ret (.s (.int .i64 (k + totF l))) ∧ ∃ els, nrs els = true ∧ h' = [⟨els, 6, cap, true⟩] := by
  refine calls_of_run Tryz.func32 rfl (by kernel_rfl) (by kernel_rfl) (by simp) 1000 ?_
  simp +contextual (maxSteps := 2000000) (disch := ((try unfold LIM at *); omega)) only [↓bcT, ↓bcF, WA, simprocAttr, wrI]
  refine LoopThen.ownF 1 (ι := Nat × List IFun) (fun p => p.1 ≤ l.length ∧ p.2.length = p.1) (fun p => [(0, .sl 0 0 l.length cap), (1, .s (.int .i64 (k + totF (l.take p.1)))), (5, .s (.int .i64 p.1))]) (fun p => [⟨p.2.map fnL ++ (l.drop p.1).map fnL, 6, cap, true⟩]) (fun p => l.length - p.1) 1000 1000
    ⟨(0, []), ⟨Nat.zero_le _, rfl⟩, [], [0], by simp, by simp +contextual (maxSteps := 2000000) (disch := ((try unfold LIM at *); omega)) only [↓bcT, ↓bcF, WA, simprocAttr, wrI, folds_nil, nrs_map fnL_nr, true_or, List.map_nil, List.nil_append, List.drop_zero, WB8], by simp +contextual (maxSteps := 2000000) (disch := ((try unfold LIM at *); omega)) only [↓bcT, ↓bcF, WA, simprocAttr, wrI, folds_nil, List.take_zero, totF, Int.add_zero, Int.natCast_zero]⟩ ?_
  rintro ⟨i, dn⟩ ⟨p1, p2⟩
  by_cases d : (i : Int) < l.length
  · obtain ⟨f, hf1⟩ := get_lt d
    have hff := hf f (List.mem_of_getElem? hf1)
    have pi : (0 : Int) ≤ i := by omega
    have la : (dn.map fnL).length = i := by rw [List.length_map, p2]
    have g1 : ∀ y (X : List (List V)), (dn.map fnL ++ y :: X)[i]? = some y := fun y X => mid_get la
    have g2 : ∀ x y (X : List (List V)), (dn.map fnL ++ y :: X).set i x = dn.map fnL ++ x :: X := fun x y X => mid_set la
    have ht := totF_take hf1
    have hle := totF_le l i
    have hle2 := totF_le l (i + 1)
    have ht1 : tot1 f = 4 + f.args.length + 2 * f.code.length := rfl
    rw [drop_cons hf1, List.map_cons]
    generalize ha : totF (l.take i) = a at *
    simp +contextual (maxSteps := 2000000) (disch := ((try unfold LIM at *); omega)) only [↓bcT, ↓bcF, WA, simprocAttr, wrI, WB7, WB8, d, pi, g1, g2, fnL, List.set_cons_zero, List.set_cons_succ, cast_succ]
    refine CallThen.pure (walk51 _ (by omega)) 1000 ?_
    simp +contextual (maxSteps := 2000000) (disch := ((try unfold LIM at *); omega)) only [↓bcT, ↓bcF, WA, simprocAttr, wrI, WB7, WB8, d, pi, g1, g2, List.set_cons_zero, List.set_cons_succ, cast_succ]
    refine CallThen.pure (walk51 _ (by omega)) 1000 ?_
    simp +contextual (maxSteps := 2000000) (disch := ((try unfold LIM at *); omega)) only [↓bcT, ↓bcF, WA, simprocAttr, wrI, WB7, WB8, d, pi, g1, g2, List.set_cons_zero, List.set_cons_succ, cast_succ]
    intro c1 hc1
    simp only [List.length_map] at hc1 ⊢
    refine CallThen.edit (walk13 f.args (k + a + 1 + 1) c1 hff.1 hc1 (by omega) (by omega)) [1] (by simp) ⟨.inl ⟨nrs_map iV_nr _, rfl⟩, trivial⟩ rfl 1000 ?_
    simp +contextual (maxSteps := 2000000) (disch := ((try unfold LIM at *); omega)) only [↓bcT, ↓bcF, WA, simprocAttr, wrI, WB7, WB8, d, pi, g1, g2, List.set_cons_zero, List.set_cons_succ, cast_succ]
    intro c2 hc2
    simp only [List.length_map] at hc2 ⊢
    refine CallThen.edit (walk52 f.code _ c2 hff.2 hc2 (by omega) (by omega)) [2] (by simp) ⟨.inl ⟨nrs_map insV_nr _, rfl⟩, trivial⟩ rfl 1000 ?_
    simp +contextual (maxSteps := 2000000) (disch := ((try unfold LIM at *); omega)) only [↓bcT, ↓bcF, WA, simprocAttr, wrI, WB7, WB8, d, pi, g1, g2, List.set_cons_zero, List.set_cons_succ, cast_succ]
    refine ⟨(i + 1, dn ++ [mkF (k + a) f]), ⟨⟨by simp only; omega, by simp only [List.length_append, List.length_cons, List.length_nil]; simp only at p2; omega⟩, by simp only; omega⟩, [(0, i, 2), (0, i, 5)], [0], ⟨by simp, rfl⟩, ?_, rfl, ?_, rfl, trivial⟩
    · rw [folds_cons, foldC_sl (b1 := 1) rfl (mid_get la) rfl rfl (by rw [List.length_map, mkI_len]) (nrs_map iV_nr _) (by simp)]
      simp only [List.set_cons_zero, List.set_cons_succ, mid_set la]
      rw [folds_one, foldC_sl (b1 := 2) rfl (mid_get la) rfl rfl (by rw [List.length_map, mkC_len]) (nrs_map insV_nr _) (by simp)]
      refine ⟨.inl ⟨by simp only [nrs_append, nrs_map fnL_nr, Bool.and_self], ?_⟩, trivial⟩
      show some _ = some _
      refine congrArg some (congrArg (fun e => (⟨e, 6, cap, true⟩ : Blk)) ?_)
      rw [mid_set la]
      simp [fnL, mkF]
    · show V.s _ = V.s _
      simp only [ht]
      congr 2
      omega
  · have e : i = l.length := by omega
    subst e
    simp +contextual (maxSteps := 2000000) (disch := ((try unfold LIM at *); omega)) only [↓bcT, ↓bcF, WA, simprocAttr, wrI, WB7, WB8, d]
    rw [List.take_length]
    exact Up.keep [⟨dn.map fnL ++ (l.drop l.length).map fnL, 6, cap, true⟩] (fun _ => rfl) rfl (by show gcL _ _ [0] _; exact ⟨.inl ⟨by simp only [nrs_append, nrs_map fnL_nr, Bool.and_self], by simp⟩, trivial⟩) ⟨rfl, _, by simp only [nrs_append, nrs_map fnL_nr, Bool.and_self], rfl⟩
end Go.Proofs.YtlhkfjannhhcbaaGreatDoor
/- part W50 -/
set_option linter.unusedVariables false
set_option linter.unusedSimpArgs false
namespace Go.W
open Go Go.RowKit

section
variable {C : Cx} {h : H} {N n0 m : Nat} {Q : QT} {k : List It} {τ : Tau}
theorem Arr.top {idx : Nat} (hn : n0 ≤ idx) (hi : idx ≤ h.length) (d : Nat) : Arr n0 h (killFrom idx h) fun x x' => x' = x ∨ x' = Go.W.frz idx d h x := by
  intro S w0 φ w R _
  obtain ⟨φ', R', E', hl, m'⟩ := Arr.frz (n0 := idx) d S w0 φ w R hi
  exact ⟨φ', R', E'.mono hn, by omega, m'⟩
theorem CallThen.top {f : Nat} {args args' : List V} {d : Option Nat} (idx : Nat) (hn : n0 ≤ idx) (hi : idx ≤ h.length) (dd : Nat) (ha : All2 (fun x x' => x' = x ∨ x' = Go.W.frz idx dd h x) args args')
    (hc : CallThen C N n0 Q f args' d k τ (killFrom idx h)) : CallThen C N n0 Q f args d k τ h :=
  CallThen.arr (Arr.top hn hi dd) ha (fun t => .inl rfl) hc
end
theorem killFrom_eq (n0 : Nat) (h : H) : killFrom n0 h = h.take n0 ++ (h.drop n0).map fun _ => Blk.dead := rfl
end Go.W
namespace Go.W
open Go Go.RowKit
theorem CallsV.nilArg {C : Cx} {h : H} {f n : Nat} {args args' : List V} {R : Res → H → Prop} (c : CallsV C f args' (h ++ [⟨[], n, 0, true⟩]) R) (ha : All2 (fun x x' => x' = x ∨ (x = .z ∧ x' = .sl h.length 0 0 0)) args args') : CallsV C f args h R := by
  intro S w0 φ vs w G Rl hv
  obtain ⟨φ', R', e', -, m'⟩ := Arr.nil (n0 := h.length) n S w0 φ w Rl (Nat.le_refl _)
  have hl : (h ++ [(⟨[], n, 0, true⟩ : Blk)]).length = h.length + 1 := by simp
  have hv' : All2 (RelV φ') args' vs.toList := by
    have key : ∀ {xs ys : List V} {us : List Value}, All2 (fun x x' => x' = x ∨ (x = .z ∧ x' = .sl h.length 0 0 0)) xs ys → All2 (RelV φ) xs us → All2 (RelV φ') ys us := by
      intro xs
      induction xs with
      | nil => intro ys us h1 h2; cases ys <;> cases us <;> first | trivial | exact h1.elim | exact h2.elim
      | cons x xs ih =>
        intro ys us h1 h2
        cases ys with
        | nil => exact h1.elim
        | cons y ys =>
          cases us with
          | nil => exact h2.elim
          | cons u us => exact ⟨m' _ _ _ h1.1 h2.1, ih h1.2 h2.2⟩
    exact key ha hv
  refine (c S w0 φ' vs w (G.mono e'.z) R' hv').mono fun e w' ⟨r, φ'', h'', p1, p2, p3, p4, p5⟩ => ⟨r, φ'', h'', p1, p2, e'.trans (p3.mono (by omega)), by omega, p5⟩
end Go.W
/- part W51 -/
set_option linter.unusedVariables false
set_option linter.unusedSimpArgs false
namespace Go.W
open Go Go.RowKit

def gcOkM (l : List Nat) (h h' : H) (n0 : Nat) : Prop :=
  l.length = h'.length ∧ (∀ (i j : Nat) (B B' : Blk), h'[i]? = some B → B.live = true → h'[j]? = some B' → B'.live = true → l[i]? = l[j]? → i = j) ∧ n0 ≤ h'.length ∧ (∀ i, i < n0 → l[i]? = some i) ∧ ∀ i B', h'[i]? = some B' → B'.live = true → ∃ B, h[nm l h.length i]? = some B ∧ B = rnB (nm l h.length) B'
section
variable {S : Nat → Prop} {w0 w : World} {φ φ' : Phi} {h h' : H} {n0 : Nat}
theorem Arr.gcM {l : List Nat} (hg : gcOkM l h h' n0) : Arr n0 h h' fun x x' => x' = .any ∨ x = rnV (nm l h.length) x' := by
  intro S w0 φ w ⟨F, R⟩ hn
  obtain ⟨g1, g2, g3, g4, g5⟩ := hg
  let r := nm l h.length
  let φ' : Phi := ⟨fun i => if i < h'.length then φ.m (r i) else none, φ.z⟩
  have hrm : ∀ b p, φ.m (r b) = some p → φ'.m b = some p := fun b p hb => by
    show (if b < h'.length then φ.m (r b) else none) = some p
    by_cases q : b < h'.length
    · rw [if_pos q]; exact hb
    · have : r b = h.length := by
        show (l[b]?).getD h.length = h.length
        rw [List.getElem?_eq_none (by omega)]; rfl
      rw [this, R.dom _ (Nat.le_refl _)] at hb; cases hb
  have hr : Rn r φ φ' := ⟨hrm, FLe.refl _⟩
  have live : ∀ i : Nat, Decidable (∃ B : Blk, h'[i]? = some B ∧ B.live = true) := fun i => Classical.propDecidable _
  have F'def : ∃ F' : Nat → Fp, ∀ i : Nat, ((∃ B : Blk, h'[i]? = some B ∧ B.live = true) → F' i = F (r i)) ∧ (¬ (∃ B : Blk, h'[i]? = some B ∧ B.live = true) → F' i = []) :=
    ⟨fun i => @ite _ _ (live i) (F (r i)) [], fun i => ⟨fun q => by simp [q], fun q => by simp [q]⟩⟩
  obtain ⟨F', hF'⟩ := F'def
  have sub : ∀ i k, k ∈ F' i → (∃ B : Blk, h'[i]? = some B ∧ B.live = true) ∧ k ∈ F (r i) := fun i k hk => by
    by_cases q : ∃ B : Blk, h'[i]? = some B ∧ B.live = true
    · exact ⟨q, by rw [(hF' i).1 q] at hk; exact hk⟩
    · rw [(hF' i).2 q] at hk; simp at hk
  have inj : ∀ (i j : Nat) (B B' : Blk), h'[i]? = some B → B.live = true → h'[j]? = some B' → B'.live = true → r i = r j → i = j := by
    intro i j B B' hB lB hB' lB' e
    have hi' : i < l.length := by have := (List.getElem?_eq_some_iff.1 hB).1; omega
    have hj' : j < l.length := by have := (List.getElem?_eq_some_iff.1 hB').1; omega
    refine g2 i j B B' hB lB hB' lB' ?_
    have e1 : r i = l[i] := by show (l[i]?).getD h.length = _; rw [List.getElem?_eq_getElem hi']; rfl
    have e2 : r j = l[j] := by show (l[j]?).getD h.length = _; rw [List.getElem?_eq_getElem hj']; rfl
    rw [e1, e2] at e
    rw [List.getElem?_eq_getElem hi', List.getElem?_eq_getElem hj', e]
  refine ⟨φ', ⟨F', R.kept, fun b hb => ?_, R.zok, fun b k o hk => R.znot _ k o (sub b k hk).2, fun b k hk => R.mine _ k (sub b k hk).2, fun b => ?_, fun b b' k hk hk' => ?_, fun b hb => ?_, fun b B' hb => ?_⟩, ⟨fun b hb => ?_, FLe.refl _, fun _ _ _ e => .inl e⟩, g3, fun x x' v hm rv => ?_⟩
  · show (if b < h'.length then φ.m (r b) else none) = none
    rw [if_neg (by omega)]
  · by_cases q : ∃ B : Blk, h'[b]? = some B ∧ B.live = true
    · rw [(hF' b).1 q]; exact R.nodup _
    · rw [(hF' b).2 q]; exact List.nodup_nil
  · obtain ⟨⟨B, q1, l1⟩, q2⟩ := sub b k hk
    obtain ⟨⟨B2, q3, l3⟩, q4⟩ := sub b' k hk'
    exact inj b b' B B2 q1 l1 q3 l3 (R.disj _ _ k q2 q4)
  · exact (hF' b).2 fun ⟨B, q, _⟩ => by have := (List.getElem?_eq_some_iff.1 q).1; omega
  · by_cases hl : B'.live = true
    · rw [(hF' b).1 ⟨B', hb, hl⟩]
      obtain ⟨B, q1, rfl⟩ := g5 b B' hb hl
      have hlt : b < h'.length := (List.getElem?_eq_some_iff.1 hb).1
      have := R.blk _ _ q1
      unfold BlkRel at this ⊢
      rw [if_pos (by exact hl)] at this
      rw [if_pos hl]
      obtain ⟨p, k1, k2, k3, k4⟩ := this
      simp only [rnB] at k1 k2 k3 k4
      refine ⟨p, by show (if b < h'.length then φ.m (r b) else none) = _; rw [if_pos hlt]; exact k1, fun el he => ?_, by simpa using k3, ?_⟩
      · have := k2 (el.map (rnC r)) (List.mem_map.2 ⟨el, he, rfl⟩); simpa using this
      · cases p with
        | none => simp only at k4 ⊢; exact ⟨by simpa using k4.1, k4.2⟩
        | some k =>
          simp only at k4 ⊢
          obtain ⟨c, ty, fq, e1, e2, e3, e4, e5⟩ := k4
          exact ⟨c, ty, fq, e1, e2, by simpa using e3, lss_map (fun x v fp => Dc.rn hr) e4, e5⟩
    · rw [(hF' b).2 fun ⟨B, q, q'⟩ => by rw [hb] at q; cases q; exact hl q']
      unfold BlkRel; rw [if_neg hl]
  · show (if b < h'.length then φ.m (r b) else none) = φ.m b
    rw [if_pos (by omega)]
    have : r b = b := by show (l[b]?).getD h.length = b; rw [g4 b hb]; rfl
    rw [this]
  · rcases hm with rfl | rfl
    · exact relV_any
    · exact hr.v rv

end
def gcLM (r : Nat → Nat) (h : H) : List Nat → H → Prop
  | [], [] => True
  | i :: l, B' :: h' => (B' = Blk.dead ∨ (nrs B'.els = true ∧ h[i]? = some B') ∨ h[i]? = some (rnB r B')) ∧ gcLM r h l h'
  | _, _ => False
def livesOf : List Nat → H → List Nat
  | i :: l, B :: h => match B.live with
    | true => i :: livesOf l h
    | false => livesOf l h
  | _, _ => []
theorem livesOf_mem : ∀ {l : List Nat} {h : H} {i : Nat} {B : Blk}, l.length = h.length → h[i]? = some B → B.live = true → ∃ x, l[i]? = some x ∧ x ∈ livesOf l h
  | [], [], i, B, _, e, _ => by simp at e
  | [], _ :: _, i, B, hl, e, _ => by simp at hl
  | x :: l, [], i, B, hl, e, _ => by simp at e
  | x :: l, B0 :: h, 0, B, hl, e, q => by
    simp at e; subst e
    exact ⟨x, rfl, by simp [livesOf, q]⟩
  | x :: l, B0 :: h, i + 1, B, hl, e, q => by
    obtain ⟨y, h1, h2⟩ := livesOf_mem (l := l) (h := h) (i := i) (by simpa using hl) (by simpa using e) q
    refine ⟨y, by simpa using h1, ?_⟩
    simp only [livesOf]
    cases B0.live <;> simp [h2]
theorem livesOf_inj : ∀ {l : List Nat} {h : H}, l.length = h.length → (livesOf l h).Nodup → ∀ (i j : Nat) (B B' : Blk), h[i]? = some B → B.live = true → h[j]? = some B' → B'.live = true → l[i]? = l[j]? → i = j
  | [], [], _, _, i, j, B, B', e, _, _, _, _ => by simp at e
  | [], _ :: _, hl, _, i, j, B, B', e, _, _, _, _ => by simp at hl
  | x :: l, [], hl, _, i, j, B, B', e, _, _, _, _ => by simp at e
  | x :: l, B0 :: h, hl, hn, i, j, B, B', e, q, e', q', he => by
    have hl' : l.length = h.length := by simpa using hl
    have hn' : (livesOf l h).Nodup := by
      simp only [livesOf] at hn
      cases hb : B0.live <;> rw [hb] at hn
      · exact hn
      · exact (List.nodup_cons.1 hn).2
    match i, j with
    | 0, 0 => rfl
    | i + 1, j + 1 => exact congrArg (· + 1) (livesOf_inj hl' hn' i j B B' (by simpa using e) q (by simpa using e') q' (by simpa using he))
    | 0, j + 1 =>
      simp at e; subst e
      obtain ⟨y, h1, h2⟩ := livesOf_mem hl' (by simpa using e' : h[j]? = some B') q'
      have hy : y = x := by simp [h1] at he; exact he.symm
      simp only [livesOf, q] at hn
      exact absurd (hy ▸ h2) (List.nodup_cons.1 hn).1
    | i + 1, 0 =>
      simp at e'; subst e'
      obtain ⟨y, h1, h2⟩ := livesOf_mem hl' (by simpa using e : h[i]? = some B) q
      have hy : y = x := by simp [h1] at he; exact he
      simp only [livesOf, q'] at hn
      exact absurd (hy ▸ h2) (List.nodup_cons.1 hn).1
theorem gcLM_spec {r : Nat → Nat} {h : H} : ∀ {l : List Nat} {h' : H}, gcLM r h l h' → l.length = h'.length ∧ ∀ (i : Nat) B', h'[i]? = some B' → B'.live = true → ∃ b : Nat, l[i]? = some b ∧ h[b]? = some (rnB r B')
  | [], [], _ => ⟨rfl, fun i B' e => by simp at e⟩
  | [], _ :: _, h => h.elim
  | _ :: _, [], h => h.elim
  | b :: l, B' :: h', hg => by
    obtain ⟨h1, h2⟩ := gcLM_spec hg.2
    refine ⟨by simp [h1], fun i B e hl => ?_⟩
    cases i with
    | zero =>
      simp at e; subst e
      refine ⟨b, rfl, ?_⟩
      rcases hg.1 with q0 | ⟨q1, q2⟩ | q
      · subst q0; cases hl
      · rw [nrs_rn r q1]; exact q2
      · exact q
    | succ i => simp at e ⊢; exact h2 i B e hl
theorem gcOkM_of {n0 : Nat} {l : List Nat} {h h' : H} (hn : (livesOf l h').Nodup) (ht : l.take n0 = List.range n0) (hg : gcLM (nm l h.length) h l h') : gcOkM l h h' n0 := by
  obtain ⟨h1, h2⟩ := gcLM_spec hg
  have hl : n0 ≤ l.length := by
    have := congrArg List.length ht
    simp at this; omega
  refine ⟨h1, livesOf_inj h1 hn, by omega, fun i hi => ?_, fun i B' e lv => ?_⟩
  · have := congrArg (fun x : List Nat => x[i]?) ht
    simp only [List.getElem?_take_of_lt hi] at this
    rw [this]; simp [hi]
  · obtain ⟨b, e1, e2⟩ := h2 i B' e lv
    exact ⟨_, by rw [show nm l h.length i = b by unfold nm; rw [e1]; rfl]; exact e2, rfl⟩
section
variable {n0 : Nat} {h : H}
theorem Up.gcM {R : Res → H → Prop} {r : V} (r' : V) (sh : List (Nat × Nat)) (fl : List (Nat × Nat × Nat)) (l : List Nat) (hs : H) (hn : (livesOf l hs).Nodup) (ht : l.take n0 = List.range n0) (hg : gcLM (nm l (folds (shrinks h sh) fl).length) (folds (shrinks h sh) fl) l hs)
    (he : r = rnV (nm l (folds (shrinks h sh) fl).length) r') (hr : R (.ret r') hs) : Up n0 R (.ret r) h :=
  ⟨r', hs, _, ((Arr.shrinks n0 sh h).trans (Arr.folds n0 fl _)).trans (Arr.gcM (gcOkM_of hn ht hg)), ⟨r, ⟨r, rfl, rfl⟩, .inr he⟩, hr⟩
end
section
variable {C : Cx} {N m n0 : Nat} {Q : QT} {k : List It} {τ : Tau} {h : H}
theorem Goes.foldG {K : Tau → H → Prop} (sh : List (Nat × Nat)) (fl : List (Nat × Nat × Nat)) (l : List Nat) (T : List (Nat × V)) (h' : H) (hn : (livesOf l h').Nodup) (hr : l.take n0 = List.range n0) (hg : gcLM (nm l (folds (shrinks h sh) fl).length) (folds (shrinks h sh) fl) l h') (ht : keepT τ (nm l (folds (shrinks h sh) fl).length) T)
    (hk : K (keepL T) h') : Goes n0 K τ h :=
  ⟨_, h', _, ((Arr.shrinks n0 sh h).trans (Arr.folds n0 fl _)).trans (Arr.gcM (gcOkM_of hn hr hg)), fun t => ⟨_, ⟨_, rfl, rfl⟩, keepT_spec ht t⟩, hk⟩
def FoldM (n0 : Nat) {ι : Type} (P : ι → Prop) (T : ι → List (Nat × V)) (Hp : ι → H) (τ : Tau) (h : H) : Prop :=
  ∃ i, P i ∧ ∃ (sh : List (Nat × Nat)) (fl : List (Nat × Nat × Nat)) (l : List Nat), ((livesOf l (Hp i)).Nodup ∧ l.take n0 = List.range n0) ∧ gcLM (nm l (folds (shrinks h sh) fl).length) (folds (shrinks h sh) fl) l (Hp i) ∧ keepT τ (nm l (folds (shrinks h sh) fl).length) (T i)
theorem LoopThen.ownG (n0 : Nat) {ι : Type} {body : Code} (P : ι → Prop) (T : ι → List (Nat × V)) (Hp : ι → H) (μ : ι → Nat) (m n : Nat) (h0 : FoldM n0 P T Hp τ h)
    (hr : ∀ i, P i → Run C N n0 n (loopN C N n0 m Q k (FoldM n0 (fun j => P j ∧ μ j < μ i) T Hp)) [.code body] (keepL (T i)) (Hp i)) : LoopThen C N n0 Q body k τ h := by
  classical
  intro hb hk
  let I : Tau → H → Prop := fun τ h => ∃ i, P i ∧ τ = keepL (T i) ∧ h = Hp i
  have nat_min : ∀ (p : Nat → Prop) (n : Nat), p n → ∃ n, p n ∧ ∀ m, p m → n ≤ m := by
    intro p n hn
    induction n using Nat.strongRecOn with
    | _ n ih =>
      by_cases q : ∃ m, m < n ∧ p m
      · obtain ⟨m, h1, h2⟩ := q; exact ih m h1 h2
      · exact ⟨n, hn, fun m hm => Nat.le_of_not_lt fun h => q ⟨m, h, hm⟩⟩
  let R : Tau → H → Nat → Prop := fun τ h n => ∃ i, P i ∧ τ = keepL (T i) ∧ h = Hp i ∧ μ i = n
  let M : Tau → H → Nat := fun τ h => if q : ∃ n, R τ h n then Classical.choose (nat_min (R τ h) _ (Classical.choose_spec q)) else 0
  have hM : ∀ τ h, I τ h → ∃ i, P i ∧ τ = keepL (T i) ∧ h = Hp i ∧ μ i = M τ h ∧ ∀ j, P j → τ = keepL (T j) → h = Hp j → M τ h ≤ μ j := by
    intro τ h ⟨i, h1, h2, h3⟩
    have q : ∃ n, R τ h n := ⟨μ i, i, h1, h2, h3, rfl⟩
    have e : M τ h = Classical.choose (nat_min (R τ h) _ (Classical.choose_spec q)) := dif_pos q
    have sp := Classical.choose_spec (nat_min (R τ h) _ (Classical.choose_spec q))
    rw [← e] at sp
    obtain ⟨⟨j, j1, j2, j3, j4⟩, j5⟩ := sp
    exact ⟨j, j1, j2, j3, j4, fun i' q1 q2 q3 => j5 (μ i') ⟨i', q1, q2, q3, rfl⟩⟩
  refine WC.loop I M ?_ fun τ h hI => ?_
  · obtain ⟨i, h1, sh, fl, l, ⟨h2, h2'⟩, h3, h4⟩ := h0
    exact Goes.foldG sh fl l (T i) (Hp i) h2 h2' h3 h4 ⟨i, h1, rfl, rfl⟩
  · obtain ⟨i, p1, e1, e2, e3, _⟩ := hM τ h hI
    subst e1; subst e2
    have := Run_sound n _ [.code body] (keepL (T i)) (Hp i) (by simp [itOk, hb]) (hr i p1)
    refine WC.mono this fun x τ' h' q => ?_
    cases x with
    | normal =>
      obtain ⟨j, ⟨q1, q2⟩, sh, fl, l, ⟨q3, q3'⟩, q4, q5⟩ := q
      refine Goes.foldG sh fl l (T j) (Hp j) q3 q3' q4 q5 ⟨⟨j, q1, rfl, rfl⟩, ?_⟩
      obtain ⟨j', _, _, _, _, r4⟩ := hM (keepL (T j)) (Hp j) ⟨j, q1, rfl, rfl⟩
      have := r4 j q1 rfl rfl
      omega
    | exit id =>
      refine semK_exit ?_
      simp only [SemK, loopN] at q
      cases hp : popTo id k with
      | none => rw [hp] at q; exact q
      | some k' => rw [hp] at q; exact Run_sound m Q k' τ' h' (popTo_ok hp hk) q
    | ret => exact semK_ret q
    | pan v => exact semK_pan q
end
theorem CallsDV.mono {D : Cx} {g : Nat} {args : List V} {h : H} {p : Option V} {R R' : Bool → H → Prop} (c : CallsDV D g args h p R) (hr : ∀ r h', R r h' → R' r h') : CallsDV D g args h p R' := by
  intro S w0 φ vs w pv G Rl ha hp
  obtain ⟨h1, h2⟩ := c S w0 φ vs w pv G Rl ha hp
  exact ⟨h1, h2.mono fun e u' w' ⟨rec, φ', h', v, q1, q2, q3, q4, q5, q6⟩ => ⟨rec, φ', h', v, q1, q2, q3, q4, q5, hr _ _ q6⟩⟩
section
variable {D : Cx} {N n0 : Nat} {Q : QT} {k : List It} {τ : Tau} {h : H} {d : Option Nat}
end
end Go.W
/- part W52 -/
set_option linter.unusedVariables false
set_option linter.unusedSimpArgs false
namespace Go.W
open Go Go.RowKit

mutual
def plT : V → Bool
  | .s _ => true
  | .z => true
  | .l _ els => plTss els
  | .lp cs => plTs cs
  | _ => false
def plTs : List V → Bool
  | [] => true
  | x :: xs => plT x && plTs xs
def plTss : List (List V) → Bool
  | [] => true
  | el :: els => plTs el && plTss els
end
theorem plTss_map {α : Type} {f : α → List V} (hf : ∀ a, plTs (f a) = true) : ∀ l : List α, plTss (l.map f) = true
  | [] => rfl
  | a :: l => by simp [plTss, hf a, plTss_map hf l]
mutual
theorem T.plain {z z' : Zm} {w : World} : ∀ (x : V) (v : Value) (fp : Fp), plT x = true → T z w x v fp → T z' w x v fp
  | .l n els, v, fp, hp, r => by
    simp only [T] at *
    simp only [plT] at hp
    rcases r with r | ⟨k, c, ty, cap, fq, h1, h2, h3, h4, h5, rfl, h7⟩
    · exact .inl r
    · exact .inr ⟨k, c, ty, cap, fq, h1, h2, h3, h4, h5, rfl, Tss.plain n els _ fq hp h7⟩
  | .lp cs, v, fp, hp, r => by
    simp only [T] at *
    simp only [plT] at hp
    obtain ⟨k, c, ty, fq, h1, h2, h3, rfl, h5⟩ := r
    exact ⟨k, c, ty, fq, h1, h2, h3, rfl, Ts.plain cs _ fq hp h5⟩
  | .s a, v, fp, hp, r => by simp only [T, RZ] at *; exact r
  | .z, v, fp, hp, r => by simp only [T, RZ] at *; exact r
  | .any, v, fp, hp, r => by simp [plT] at hp
  | .f n els, v, fp, hp, r => by simp [plT] at hp
  | .pd cs, v, fp, hp, r => by simp [plT] at hp
  | .fn f caps, v, fp, hp, r => by simp [plT] at hp
  | .sl _ _ _ _, v, fp, hp, r => by simp [T] at r
  | .ptr _ _ _, v, fp, hp, r => by simp [T] at r
  | .agg _, v, fp, hp, r => by simp [T] at r
  | .tup _, v, fp, hp, r => by simp [T] at r
theorem Ts.plain {z z' : Zm} {w : World} : ∀ (xs : List V) (vs : List Value) (fp : Fp), plTs xs = true → Ts z w xs vs fp → Ts z' w xs vs fp
  | [], vs, fp, hp, r => by simp only [Ts] at *; exact r
  | x :: xs, vs, fp, hp, r => by
    simp only [Ts] at *
    simp only [plTs, Bool.and_eq_true] at hp
    obtain ⟨v, t, f1, f2, rfl, rfl, h3, h4⟩ := r
    exact ⟨v, t, f1, f2, rfl, rfl, T.plain x v f1 hp.1 h3, Ts.plain xs t f2 hp.2 h4⟩
theorem Tss.plain {z z' : Zm} {w : World} (n : Nat) : ∀ (els : List (List V)) (vs : List Value) (fp : Fp), plTss els = true → Tss z w n els vs fp → Tss z' w n els vs fp
  | [], vs, fp, hp, r => by simp only [Tss] at *; exact r
  | el :: els, vs, fp, hp, r => by
    simp only [Tss] at *
    simp only [plTss, Bool.and_eq_true] at hp
    obtain ⟨h0, f1, f2, rfl, h3, h4⟩ := r
    exact ⟨h0, f1, f2, rfl, Ts.plain el vs f1 hp.1 h3, Tss.plain n els (vs.drop n) f2 hp.2 h4⟩
end
theorem dc_plT {φ φ' : Phi} {w : World} {x : V} {v : Value} {fp : Fp} (hp : plT x = true) (h : Dc φ w x v fp) : Dc φ' w x v fp := by
  rcases h with ⟨h, rfl⟩ | h
  · cases x with
    | s a => exact .inl ⟨by simp only [RelC, RelP, RZ] at h ⊢; exact h, rfl⟩
    | z => exact .inl ⟨by simp only [RelC, RelP, RZ] at h ⊢; exact h, rfl⟩
    | l n els => simp [RelC, RelP, RZ] at h
    | lp cs => simp [RelC, RelP, RZ] at h
    | _ => simp [plT] at hp
  · exact .inr (T.plain x v fp hp h)
theorem ls_plT {φ φ' : Phi} {w : World} : ∀ {el : List V} {vs : List Value} {fp : Fp}, plTs el = true → Ls (Dc φ w) el vs fp → Ls (Dc φ' w) el vs fp
  | [], vs, fp, hp, h => by simp only [Ls] at *; exact h
  | x :: xs, vs, fp, hp, h => by
    simp only [Ls] at *
    simp only [plTs, Bool.and_eq_true] at hp
    obtain ⟨v, r, f1, f2, e1, e2, h1, h2⟩ := h
    exact ⟨v, r, f1, f2, e1, e2, dc_plT hp.1 h1, ls_plT hp.2 h2⟩
theorem lss_plT {φ φ' : Phi} {w : World} {n : Nat} : ∀ {els : List (List V)} {vs : List Value} {fp : Fp}, plTss els = true → Lss (Dc φ w) n els vs fp → Lss (Dc φ' w) n els vs fp
  | [], vs, fp, hp, h => by simp only [Lss] at *; exact h
  | el :: els, vs, fp, hp, h => by
    simp only [Lss] at *
    simp only [plTss, Bool.and_eq_true] at hp
    obtain ⟨h0, f1, f2, e, h1, h2⟩ := h
    exact ⟨h0, f1, f2, e, ls_plT hp.1 h1, lss_plT hp.2 h2⟩
section
variable {C : Cx}
theorem CallsV.lendT {f : Nat} {args args' : List V} {R0 : Res → H → Prop} (p : CallsV C f args [] R0) (hz : ∀ r h', R0 r h' → zfR r = true ∧ h'.all (fun B => plTss B.els) = true) (d : Nat) (H : H) (ha : args = args'.map (Go.W.frz 0 d H)) :
    CallsV C f args' H fun res h' => ∃ r h1, R0 r h1 ∧ res = rnRes (fun b => H.length + b) r ∧ h' = H ++ h1 := by
  intro S w0 φ vs w G R hargs
  obtain ⟨φ', R', E', _, m'⟩ := Arr.frz (n0 := 0) d S w0 φ w R (Nat.zero_le _)
  have R0' : Rel (fun _ => False) w ⟨fun _ => none, φ'.z⟩ [] w := by
    obtain ⟨F', R'⟩ := R'
    exact ⟨fun _ => [], Kept.refl _ _, fun _ _ => rfl, R'.zok, fun _ _ _ h => by simp at h, fun _ _ h => by simp at h, fun _ => List.nodup_nil, fun _ _ _ h => by simp at h, fun _ _ => rfl, fun b B h => by simp at h⟩
  have hargs' : All2 (RelV ⟨fun _ => none, φ'.z⟩) args vs.toList := by
    subst ha
    refine all2_map.2 (hargs.mono fun x v rv => ?_)
    have := m' x (Go.W.frz 0 d H x) v (.inr rfl) rv
    have hc := (frz_closed (fun b => H.length + b) 0 H d x).2.2.2
    rw [← hc] at this
    have hrn : Rn (fun b => H.length + b) φ' ⟨fun _ => none, φ'.z⟩ := ⟨fun b q e => by
      obtain ⟨F', R'⟩ := R'
      have hd := R'.dom (H.length + b) (by simp [killFrom])
      rw [hd] at e; exact absurd e (by simp), FLe.refl _⟩
    exact hrn.v this
  refine (p (fun _ => False) w ⟨fun _ => none, φ'.z⟩ vs w (G.mono E'.z) R0' hargs').mono fun e w1 ⟨res, φ1, h1, q1, q2, q3, q4, q5⟩ => ?_
  obtain ⟨F1, R1⟩ := q2
  obtain ⟨F, R⟩ := R
  obtain ⟨z1, z2⟩ := hz _ _ q5
  have gr : w.grownBy w1 none := ⟨R1.kept.os, R1.kept.tape, R1.kept.output, R1.kept.size, fun k hk _ => R1.kept.block k hk id⟩
  have new : ∀ b k, k ∈ F1 b → w.heap.size ≤ k := fun b k hk => by
    rcases (R1.mine b k hk).1 with q | q
    · exact q.elim
    · exact q
  have old : ∀ b k, k ∈ F b → k < w.heap.size := fun b k hk => (R.mine b k hk).2
  let φ2 : Phi := ⟨fun b => if b < H.length then φ.m b else φ1.m (b - H.length), φ.z⟩
  have m1 : ∀ b, b < H.length → φ2.m b = φ.m b := fun b hb => by show (if b < H.length then _ else _) = _; rw [if_pos hb]
  have m2 : ∀ b, φ2.m (H.length + b) = φ1.m b := fun b => by show (if H.length + b < H.length then _ else _) = _; rw [if_neg (by omega), show H.length + b - H.length = b by omega]
  have he : Ext φ φ2 := ⟨fun b p hb => by
    by_cases q : b < H.length
    · rw [m1 b q]; exact hb
    · have := R.dom b (by omega)
      rw [this] at hb; exact absurd hb (by simp), FLe.refl _⟩
  have Rg := R.grow gr
  refine ⟨rnRes (fun b => H.length + b) res, φ2, H ++ h1, ?_, ⟨fun b => if b < H.length then F b else F1 (b - H.length), Rg.kept, ?_, Rg.zok, ?_, ?_, ?_, ?_, ?_, ?_⟩, ⟨fun b hb => m1 b hb, FLe.refl _, fun _ _ _ e => .inl e⟩, by simp, res, h1, q5, rfl, rfl⟩
  · cases res with
    | ret v =>
      obtain ⟨cv, e1, rv⟩ := q1
      exact ⟨cv, e1, zfV_rel (fun b q hb => by rw [m2]; exact hb) z1 rv⟩
    | pan v => simp [zfR] at z1
  · intro b hb
    simp only [List.length_append] at hb
    have : b = H.length + (b - H.length) := by omega
    rw [this, m2]; exact R1.dom _ (by omega)
  · intro b k o hk
    by_cases q : b < H.length
    · simp only [q, if_true] at hk; exact R.znot b k o hk
    · simp only [q, if_false] at hk
      have h2 := new _ _ hk
      cases e : φ2.z k o with
      | none => rfl
      | some v =>
        have := World.block_lt_of_cell? _ _ (R.zok k o v e)
        simp only at this; omega
  · intro b k hk
    by_cases q : b < H.length
    · simp only [q, if_true] at hk; exact Rg.mine b k hk
    · simp only [q, if_false] at hk
      exact ⟨.inr (Nat.le_trans R.kept.size (new _ _ hk)), (R1.mine _ k hk).2⟩
  · intro b
    by_cases q : b < H.length
    · simp only [q, if_true]; exact R.nodup b
    · simp only [q, if_false]; exact R1.nodup _
  · intro b b' k hk hk'
    by_cases q : b < H.length <;> by_cases q' : b' < H.length <;> simp only [q, q', if_true, if_false] at hk hk'
    · exact R.disj b b' k hk hk'
    · have := old _ _ hk; have := new _ _ hk'; omega
    · have := old _ _ hk'; have := new _ _ hk; omega
    · have := R1.disj _ _ k hk hk'; omega
  · intro b hb
    simp only [List.length_append] at hb
    simp only [show ¬ b < H.length by omega, if_false]
    exact R1.out _ (by omega)
  · intro b B hB
    by_cases q : b < H.length
    · simp only [q, if_true]
      rw [List.getElem?_append_left q] at hB
      exact (Rg.blk b B hB).keep he fun _ _ => rfl
    · simp only [q, if_false]
      rw [List.getElem?_append_right (by omega)] at hB
      have hr := R1.blk _ B hB
      have hp : plTss B.els = true := List.all_eq_true.1 z2 B (List.mem_of_getElem? hB)
      unfold BlkRel at hr ⊢
      split
      · rename_i hl
        rw [if_pos hl] at hr
        obtain ⟨p, k1, k2, k3, k4⟩ := hr
        refine ⟨p, by rw [← m2, show H.length + (b - H.length) = b by omega] at k1; exact k1, k2, k3, ?_⟩
        cases p with
        | none => exact k4
        | some k =>
          obtain ⟨c, ty, fq, r1, r2, r3, r4, r5⟩ := k4
          exact ⟨c, ty, fq, r1, r2, r3, lss_plT hp r4, r5⟩
      · rename_i hl
        rw [if_neg hl] at hr; exact hr
end
end Go.W
/- part W53 -/
set_option linter.unusedVariables false
set_option linter.unusedSimpArgs false
namespace Go.W
open Go Go.RowKit

section
variable {h : H} {n0 : Nat}
end
section
variable {C : Cx} {N m n0 : Nat} {Q : QT} {k : List It} {τ : Tau} {h : H}
end
end Go.W
/- part W54 -/
set_option linter.unusedVariables false
set_option linter.unusedSimpArgs false
namespace Go.W
open Go Go.RowKit

section
variable {D : Cx} {N n0 : Nat} {Q : QT} {k : List It} {τ : Tau} {h : H} {d : Option Nat}
def DidP (D : Cx) (f : Nat) (args : List V) (hs : H) (ok : Option (V × H)) (v : V) (pre : H) : Prop :=
  CallsV D f args hs fun res h' => match ok with
    | some p => res = .ret p.1 ∧ h' = p.2
    | none => res = .pan v ∧ ∃ t, h' = pre ++ t
theorem CallThen.did {f : Nat} {args args' : List V} {hs : H} {ok : Option (V × H)} {v : V} {pre : H} (p : DidP D f args hs ok v pre) (sh : List (Nat × Nat)) (fl : List (Nat × Nat × Nat)) (bs : List Nat) (hF : H) (eF : folds (shrinks h sh) fl = hF) (hn : bs.Nodup)
    (hg : gcL (emb bs hF.length) hF bs hs) (ha : args' = args.map (rnV (emb bs hF.length))) (hv : ∀ ρ, rnV ρ v = v) (m : Nat)
    (hr : ∀ q, ok = some q → Run D N n0 m Q k (upo d (rnV (emb bs hF.length) q.1) τ) (setAll hF bs (q.2.map (rnB (emb bs hF.length)))))
    (hp : ok = none → ∀ t : H, bs.length ≤ pre.length + t.length → Q (.pan v) τ (setAll hF bs (pre.map (rnB (emb bs hF.length)) ++ t))) : CallThen D N n0 Q f args' d k τ h := by
  subst eF
  refine CallThen.of m (CallsV.fold sh fl (CallsV.frameL p bs _ hn hg ha)) fun res h' ⟨r, h1, q1, q2, q3, q4⟩ => ?_
  subst q3; subst q4
  cases ok with
  | some q => obtain ⟨rfl, rfl⟩ := q1; exact hr q rfl
  | none =>
    simp only at q1
    obtain ⟨rfl, t, rfl⟩ := q1
    have := hp rfl (t.map (rnB (emb bs (folds (shrinks h sh) fl).length))) (by rw [List.length_map, (gcL_spec hg).1]; simpa using q2)
    rw [← List.map_append] at this
    simp only [callQ, rnRes, hv]
    exact this
theorem DCall.did {h0 : H} {exc : List Nat} {ops : Array Oper} {fuel : Nat} {listed : Array Bool} {nw : List Nat} {f : Nat} {args args' : List V} {hs : H} {ok : Option (V × H)} {v : V} {pre : H} (p : DidP D f args hs ok v pre) (sh : List (Nat × Nat)) (fl : List (Nat × Nat × Nat)) (bs : List Nat) (hF : H) (eF : folds (shrinks (hide h0 exc h) sh) fl = hF) (hn : bs.Nodup)
    (hg : gcL (emb bs hF.length) hF bs hs) (ha : args' = args.map (rnV (emb bs hF.length))) (hv : ∀ ρ, rnV ρ v = v) (m : Nat) (td : TD) (hd : drawOk ops [] listed td = true)
    (hr : ∀ q, ok = some q → RunD D N n0 m Q k h0 exc ops fuel listed td (addN d nw) (upo d (rnV (emb bs hF.length) q.1) τ) (show_ h0 exc h (setAll hF bs (q.2.map (rnB (emb bs hF.length))))))
    (hp : ok = none → ∀ t : H, bs.length ≤ pre.length + t.length → Q (.pan v) τ (show_ h0 exc h (setAll hF bs (pre.map (rnB (emb bs hF.length)) ++ t)))) : DCall D N n0 Q h0 exc ops fuel listed k f args' d nw τ h := by
  subst eF
  refine DCall.of m td hd (CallsV.fold sh fl (CallsV.frameL p bs _ hn hg ha)) fun res h' ⟨r, h1, q1, q2, q3, q4⟩ => ?_
  subst q3; subst q4
  cases ok with
  | some q => obtain ⟨rfl, rfl⟩ := q1; exact hr q rfl
  | none =>
    simp only at q1
    obtain ⟨rfl, t, rfl⟩ := q1
    have := hp rfl (t.map (rnB (emb bs (folds (shrinks (hide h0 exc h) sh) fl).length))) (by rw [List.length_map, (gcL_spec hg).1]; simpa using q2)
    rw [← List.map_append] at this
    simp only [rnRes, hv]
    exact this
end
end Go.W
/- part W55 -/
set_option linter.unusedVariables false
set_option linter.unusedSimpArgs false
namespace Go.W
open Go Go.RowKit

theorem rowsIn_wide' {n : Nat} {P : Program} {row : String} {args : Array Value} {w : World} {R : Value → World → Prop} (h : Rows P row args w R) : RowsIn Fence.wide n P row args w R := by
  intro c cs
  obtain ⟨v, w', r, s⟩ := h c cs
  exact fun _ => ⟨v, w', r, stepsIn_wide.2 s⟩
theorem wpOp_in {C : Cx} {n : Nat} {ops : Array Oper} {Q : Exit → Act → World → Prop} {i : Nat} {K K' : Act → World → Prop} {a : Act} {w : World} (hd : ∀ o, ops[i]? = some o → ∀ c, o.op ≠ .defer c) (hL : ¬ LetsOut Q)
    (hK : ∀ a w, K a w → K' a w) (h : wpOp C.P ops Q i K a w) : wpOpIn C.fc n C.P ops Q i K' a w := by
  unfold wpOp at h; unfold wpOpIn
  cases ho : ops[i]? with
  | none => rw [ho] at h; exact hK _ _ h
  | some o =>
    rw [ho] at h
    dsimp only at h ⊢
    split
    · rename_i hw
      rw [if_pos hw] at h
      rcases h with h | h
      · refine ⟨fun _ _ => trivial, ?_⟩
        rw [Oper.semAt_eq _ _ _ (hd o ho)]
        unfold Oper.wp at h
        generalize (execOp a.eval o).run C.P w = r at h
        cases r with
        | ok x w' =>
          cases x with
          | value v => exact hK _ _ h
          | skip => exact hK _ _ h
          | defer d => exact hK _ _ h
          | enter f args =>
            refine ⟨(fun q => by cases q), callsIn_fc.2 (Calls.mono (R := fun e w'' => match e, w'' with
              | .returned v, w'' => K (a.put o.dst v) w''
              | .panicked chain, w'' => Q (.panic chain) a w''
              | .outgrown, _ => LetsOut Q) h ?_)⟩
            intro e w'' he
            cases e with
            | returned v => exact hK _ _ he
            | panicked c => exact he
            | outgrown => exact he
          | row row args => exact ⟨(fun q => by cases q), rowsIn_wide' (Rows.mono h fun v w'' he => hK _ _ he)⟩
          | round l f tmps assign body => exact False.elim h
          | _ => exact h
        | halt x w' => cases x <;> exact h
      · exact absurd h.2 hL
    · rename_i hw
      rw [if_neg hw] at h
      exact ⟨fun _ _ => trivial, hK _ _ h⟩
theorem wpAny_in {C : Cx} {n : Nat} {md : Region.Mode} {ops : Array Oper} {Q : Exit → Act → World → Prop} (hd : ∀ o ∈ ops.toList, ∀ c, o.op ≠ .defer c) (hL : ¬ LetsOut Q) : ∀ (fuel : Nat) (listed : Array Bool) (a : Act) (w : World),
    wpAny C.P md ops Q fuel listed a w → wpAnyIn C.fc n C.P md ops Q fuel listed a w
  | 0, listed, a, w, h => h
  | fuel + 1, listed, a, w, h => ⟨h.1, fun i hi => wpOp_in (fun o ho => hd o (by
      have := Array.getElem?_eq_some_iff.1 ho
      obtain ⟨hlt, rfl⟩ := this
      exact Array.getElem_mem_toList hlt)) hL (fun a w q => wpAny_in hd hL fuel _ a w q) (h.2 i hi)⟩
def noDefer (ops : Array Oper) : Bool := ops.toList.all fun o => match o.op with
  | .defer _ => false
  | _ => true
theorem noDefer_spec {ops : Array Oper} (h : noDefer ops = true) : ∀ o ∈ ops.toList, ∀ c, o.op ≠ .defer c := by
  intro o ho c e
  have := List.all_eq_true.1 h o ho
  rw [e] at this; cases this
section
variable {C : Cx} {N n0 : Nat} {Q : QT} {k : List It} {τ : Tau} {h : H} {ops : Array Oper}
theorem DrawThen.ofR {id : Nat} (m : Nat) (exc : List Nat) (td : TD) (hQ : PanFree Q) (hm : C.P.follows .mixedOrders = true) (hsel : Region.noSelect ops = true)
    (hd : drawOk ops [] (Array.replicate ops.size false) td = true) (hdf : noDefer ops = true) (hr : RunD C N n0 m Q k h exc ops ops.size (Array.replicate ops.size false) td [] τ h) : DrawThen C N n0 Q id ops k τ h := by
  intro hops hk S w0 φ a w G R hn T hN
  refine wpV_of ?_
  refine wpIn_region_any hm (wpAny_in (noDefer_spec hdf) ?_ _ _ _ _ (wpAny_of_held (S := SW { w with drawn := w.drawn + 1 } φ h exc) _ _ _ _ ?_))
  · rintro ⟨a', w', p⟩
    obtain ⟨x, τ', h', φ', p1, -⟩ := p
    cases x <;> simp [XRel] at p1
  have R' : Rel S w0 φ h { w with drawn := w.drawn + 1 } := R.grow ⟨rfl, rfl, rfl, Nat.le_refl _, fun _ _ _ => rfl⟩
  refine (RunD_both hQ hk hops hsel td [] _ _ [] τ h hd hr).1 rfl S w0 φ _ φ a _ G R' (ExtN.refl ..) R' ⟨Nat.le_refl _, fun _ _ => rfl⟩ hn T (by rw [restr_nil]; exact T) hN ⟨?_, fun _ _ _ _ _ _ => rfl⟩
  obtain ⟨F, RF⟩ := R'
  exact RF.zok
theorem DidP.inRd {f : Nat} {args : List V} {hs : H} {ok : Option (V × H)} {v : V} {pre : H} (p : DidP C f args hs ok v pre) (l : Nat) : DidP (C.inRd l) f args hs ok v pre := p
end
end Go.W
