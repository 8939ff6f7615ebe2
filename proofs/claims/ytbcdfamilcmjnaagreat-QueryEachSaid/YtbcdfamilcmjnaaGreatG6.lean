/- Parts of the proof: K44y, C30, C30b, V38b, V44, C44, C44b, V38c, V39, V39b, C38, C38b, C38c, C38d, C38e, C38f, C38g, C39, C39b, C39c, V38f, C38h, C38i, C38j, C38k, C38l, C38m, V40, V44b, C40, C40b. -/
import Derived.Test.YtbcdfamilcmjnaaGreatRows
import Derived.Test.YtbcdfamilcmjnaaGreatG2
import Derived.Test.YtbcdfamilcmjnaaGreatG3
import Derived.Test.YtbcdfamilcmjnaaGreatG4
import Derived.Test.YtbcdfamilcmjnaaGreatG5
import Derived.Shelf.Strings.Builder1
set_option linter.all false
/- MADE BY PROGRAM (seat2.py): the types of the program, and that its code is the machine's. -/
namespace Go.Proofs
open Go.Shelf
def Tryz.lays169_ren : Go.Shelf.Ren := ⟨fun | 169 => 44 | n => n, fun | 70 => 99 | 9 => 9 | 0 => 0 | 72 => 102 | 37 => 100 | 127 => 143 | 3 => 3 | 5 => 5 | n => n, fun | n => n⟩
theorem Tryz.lays169 : Go.Proofs.Lays.n169 Tryz.prog Tryz.lays169_ren := {
  mixed := by kernel_rfl
  f169 := Tryz.func44.trans (congrArg some (by kernel_rfl))
  t0 := Tryz.underlying0
  a0 := Tryz.isAgg0
  z0 := Tryz.sizeOf0
  v0 := Tryz.zeroValue0
  t3 := Tryz.underlying3
  a3 := Tryz.isAgg3
  z3 := Tryz.sizeOf3
  v3 := Tryz.zeroValue3
  t9 := Tryz.underlying9
  a9 := Tryz.isAgg9
  z9 := Tryz.sizeOf9
  v9 := Tryz.zeroValue9
  t37 := Tryz.underlying100
  a37 := Tryz.isAgg100
  z37 := Tryz.sizeOf100
  v37 := Tryz.zeroValue100
  t70 := Tryz.underlying99
  a70 := Tryz.isAgg99
  z70 := Tryz.sizeOf99
  v70 := Tryz.zeroValue99
  t72 := Tryz.underlying102
  a72 := Tryz.isAgg102
  z72 := Tryz.sizeOf102
  v72 := Tryz.zeroValue102
  t127 := Tryz.underlying143
  a127 := Tryz.isAgg143
  z127 := Tryz.sizeOf143
  v127 := Tryz.zeroValue143 }

theorem Tryz.extraB : Builder.Extra Tryz.prog Tryz.lays169_ren := {
  sizeBuilder := by kernel_rfl
  liesBuilder := by kernel_rfl
  t5 := Tryz.underlying5
  a5 := Tryz.isAgg5
  z5 := Tryz.sizeOf5
  v5 := Tryz.zeroValue5
  infoByte := by kernel_rfl
  cellsByte := by kernel_rfl
  sizeByte := by kernel_rfl
  neB5 := by decide }
end Go.Proofs
namespace Go.Proofs.YtbcdfamilcmjnaaGreat
open Go Go.AM

def tys : List (Nat × TI) := [
(2, ⟨.int .i64, 1, 8, [.i .i64 0]⟩),
  (3, ⟨.int .i64, 1, 8, [.i .i64 0]⟩),
  (4, ⟨.bool, 1, 1, [.b false]⟩),
  (5, ⟨.int .u8, 1, 1, [.i .u8 0]⟩),
  (9, ⟨.str, 1, 16, [.s []]⟩),
  (22, ⟨.sl 212, 1, 24, [.sl .full []]⟩),
  (23, ⟨.sl 9, 1, 24, [.sl .full []]⟩),
  (24, ⟨.sl 59, 1, 24, [.sl .full []]⟩),
  (26, ⟨.st [(22, 0), (23, 1), (24, 2)], 3, 72, [.sl .full [], .sl .full [], .sl .full []]⟩),
  (27, ⟨.sl 49, 1, 24, [.sl .full []]⟩),
  (29, ⟨.st [(5, 0), (3, 1), (3, 2), (27, 3)], 4, 48, [.i .u8 0, .i .i64 0, .i .i64 0, .sl .full []]⟩),
  (31, ⟨.st [(5, 0), (3, 1), (3, 2), (2, 3), (9, 4)], 5, 48, [.i .u8 0, .i .i64 0, .i .i64 0, .i .i64 0, .s []]⟩),
  (34, ⟨.int .i64, 1, 8, [.i .i64 0]⟩),
  (45, ⟨.sl 54, 1, 24, [.sl .full []]⟩),
  (46, ⟨.sl 113, 1, 24, [.sl .full []]⟩),
  (47, ⟨.sl 89, 1, 24, [.sl .full []]⟩),
  (49, ⟨.st [(5, 0), (2, 1), (45, 2), (46, 3), (47, 4)], 5, 88, [.i .u8 0, .i .i64 0, .sl .full [], .sl .full [], .sl .full []]⟩),
  (51, ⟨.int .u64, 1, 8, [.i .u64 0]⟩),
  (52, ⟨.sl 66, 1, 24, [.sl .full []]⟩),
  (54, ⟨.st [(3, 0), (3, 1), (51, 2), (52, 3)], 4, 48, [.i .i64 0, .i .i64 0, .i .u64 0, .sl .full []]⟩),
  (55, ⟨.sl 68, 1, 24, [.sl .full []]⟩),
  (56, ⟨.sl 214, 1, 24, [.sl .full []]⟩),
  (57, ⟨.sl 216, 1, 24, [.sl .full []]⟩),
  (59, ⟨.st [(9, 0), (3, 1), (3, 2), (55, 3), (56, 4), (57, 5), (57, 6)], 7, 128, [.s [], .i .i64 0, .i .i64 0, .sl .full [], .sl .full [], .sl .full [], .sl .full []]⟩),
  (62, ⟨.sl 64, 1, 24, [.sl .full []]⟩),
  (64, ⟨.st [(5, 0), (2, 1), (9, 2), (62, 3), (4, 4)], 5, 64, [.i .u8 0, .i .i64 0, .s [], .sl .full [], .b false]⟩),
  (66, ⟨.st [(3, 0), (64, 1)], 6, 72, [.i .i64 0, .i .u8 0, .i .i64 0, .s [], .sl .full [], .b false]⟩),
  (68, ⟨.st [(9, 0), (3, 1)], 2, 24, [.s [], .i .i64 0]⟩),
  (72, ⟨.other, 1, 8, [.nf]⟩),
  (75, ⟨.ptr 77, 1, 8, [.np]⟩),
  (77, ⟨.st [(26, 0), (29, 3), (31, 7), (23, 12)], 13, 192, [.sl .full [], .sl .full [], .sl .full [], .i .u8 0, .i .i64 0, .i .i64 0, .sl .full [], .i .u8 0, .i .i64 0, .i .i64 0, .i .i64 0, .s [], .sl .full []]⟩),
  (80, ⟨.other, 1, 8, [.nf]⟩),
  (89, ⟨.st [(51, 0), (64, 1), (51, 6)], 7, 80, [.i .u64 0, .i .u8 0, .i .i64 0, .s [], .sl .full [], .b false, .i .u64 0]⟩),
  (99, ⟨.ptr 102, 1, 8, [.np]⟩),
  (100, ⟨.sl 5, 1, 24, [.sl .full []]⟩),
  (102, ⟨.st [(99, 0), (100, 1)], 2, 32, [.np, .sl .full []]⟩),
  (108, ⟨.arr 4 9, 4, 64, [.s [], .s [], .s [], .s []]⟩),
  (110, ⟨.other, 1, 8, [.nf]⟩),
  (113, ⟨.st [(3, 0), (3, 1), (4, 2), (64, 3)], 8, 88, [.i .i64 0, .i .i64 0, .b false, .i .u8 0, .i .i64 0, .s [], .sl .full [], .b false]⟩),
  (123, ⟨.mp, 1, 8, [.u]⟩),
  (137, ⟨.arr 8 9, 8, 128, [.s [], .s [], .s [], .s [], .s [], .s [], .s [], .s []]⟩),
  (139, ⟨.other, 1, 16, [.ni]⟩),
  (148, ⟨.other, 1, 8, [.nf]⟩),
  (151, ⟨.other, 1, 8, [.nf]⟩),
  (171, ⟨.other, 1, 8, [.nf]⟩),
  (174, ⟨.arr 5 5, 5, 5, [.i .u8 0, .i .u8 0, .i .u8 0, .i .u8 0, .i .u8 0]⟩),
  (177, ⟨.arr 64 5, 64, 64, [.i .u8 0, .i .u8 0, .i .u8 0, .i .u8 0, .i .u8 0, .i .u8 0, .i .u8 0, .i .u8 0, .i .u8 0, .i .u8 0, .i .u8 0, .i .u8 0, .i .u8 0, .i .u8 0, .i .u8 0, .i .u8 0, .i .u8 0, .i .u8 0, .i .u8 0, .i .u8 0, .i .u8 0, .i .u8 0, .i .u8 0, .i .u8 0, .i .u8 0, .i .u8 0, .i .u8 0, .i .u8 0, .i .u8 0, .i .u8 0, .i .u8 0, .i .u8 0, .i .u8 0, .i .u8 0, .i .u8 0, .i .u8 0, .i .u8 0, .i .u8 0, .i .u8 0, .i .u8 0, .i .u8 0, .i .u8 0, .i .u8 0, .i .u8 0, .i .u8 0, .i .u8 0, .i .u8 0, .i .u8 0, .i .u8 0, .i .u8 0, .i .u8 0, .i .u8 0, .i .u8 0, .i .u8 0, .i .u8 0, .i .u8 0, .i .u8 0, .i .u8 0, .i .u8 0, .i .u8 0, .i .u8 0, .i .u8 0, .i .u8 0, .i .u8 0]⟩),
  (186, ⟨.uptr, 1, 8, [.np]⟩),
  (212, ⟨.st [(5, 0), (3, 1), (3, 2), (55, 3)], 4, 48, [.i .u8 0, .i .i64 0, .i .i64 0, .sl .full []]⟩),
  (214, ⟨.st [(5, 0), (3, 1), (3, 2), (3, 3)], 4, 32, [.i .u8 0, .i .i64 0, .i .i64 0, .i .i64 0]⟩),
  (216, ⟨.st [(3, 0), (51, 1)], 2, 16, [.i .i64 0, .i .u64 0]⟩)]
theorem ty2 : TOk Tryz.prog 2 (((2, ⟨.int .i64, 1, 8, [.i .i64 0]⟩) : Nat × TI).2) := TOk.of (ti := Tryz.t2) (by kernel_rfl) (by kernel_rfl) (by kernel_rfl) (show Tryz.prog.underlying 2 = some (.int .i64) from by kernel_rfl)
theorem ty3 : TOk Tryz.prog 3 (((3, ⟨.int .i64, 1, 8, [.i .i64 0]⟩) : Nat × TI).2) := TOk.of (ti := Tryz.t3) (by kernel_rfl) (by kernel_rfl) (by kernel_rfl) (show Tryz.prog.underlying 3 = some (.int .i64) from by kernel_rfl)
theorem ty4 : TOk Tryz.prog 4 (((4, ⟨.bool, 1, 1, [.b false]⟩) : Nat × TI).2) := TOk.of (ti := Tryz.t4) (by kernel_rfl) (by kernel_rfl) (by kernel_rfl) (show Tryz.prog.underlying 4 = some (.bool) from by kernel_rfl)
theorem ty5 : TOk Tryz.prog 5 (((5, ⟨.int .u8, 1, 1, [.i .u8 0]⟩) : Nat × TI).2) := TOk.of (ti := Tryz.t5) (by kernel_rfl) (by kernel_rfl) (by kernel_rfl) (show Tryz.prog.underlying 5 = some (.int .u8) from by kernel_rfl)
theorem ty9 : TOk Tryz.prog 9 (((9, ⟨.str, 1, 16, [.s []]⟩) : Nat × TI).2) := TOk.of (ti := Tryz.t9) (by kernel_rfl) (by kernel_rfl) (by kernel_rfl) (show Tryz.prog.underlying 9 = some (.string) from by kernel_rfl)
theorem ty22 : TOk Tryz.prog 22 (((22, ⟨.sl 212, 1, 24, [.sl .full []]⟩) : Nat × TI).2) := TOk.of (ti := Tryz.t22) (by kernel_rfl) (by kernel_rfl) (by kernel_rfl) (show Tryz.prog.underlying 22 = some (.slice 212) from by kernel_rfl)
theorem ty23 : TOk Tryz.prog 23 (((23, ⟨.sl 9, 1, 24, [.sl .full []]⟩) : Nat × TI).2) := TOk.of (ti := Tryz.t23) (by kernel_rfl) (by kernel_rfl) (by kernel_rfl) (show Tryz.prog.underlying 23 = some (.slice 9) from by kernel_rfl)
theorem ty24 : TOk Tryz.prog 24 (((24, ⟨.sl 59, 1, 24, [.sl .full []]⟩) : Nat × TI).2) := TOk.of (ti := Tryz.t24) (by kernel_rfl) (by kernel_rfl) (by kernel_rfl) (show Tryz.prog.underlying 24 = some (.slice 59) from by kernel_rfl)
theorem ty26 : TOk Tryz.prog 26 (((26, ⟨.st [(22, 0), (23, 1), (24, 2)], 3, 72, [.sl .full [], .sl .full [], .sl .full []]⟩) : Nat × TI).2) := TOk.of (ti := Tryz.t26) (by kernel_rfl) (by kernel_rfl) (by kernel_rfl) (TK.ok_st (by kernel_rfl))
theorem ty27 : TOk Tryz.prog 27 (((27, ⟨.sl 49, 1, 24, [.sl .full []]⟩) : Nat × TI).2) := TOk.of (ti := Tryz.t27) (by kernel_rfl) (by kernel_rfl) (by kernel_rfl) (show Tryz.prog.underlying 27 = some (.slice 49) from by kernel_rfl)
theorem ty29 : TOk Tryz.prog 29 (((29, ⟨.st [(5, 0), (3, 1), (3, 2), (27, 3)], 4, 48, [.i .u8 0, .i .i64 0, .i .i64 0, .sl .full []]⟩) : Nat × TI).2) := TOk.of (ti := Tryz.t29) (by kernel_rfl) (by kernel_rfl) (by kernel_rfl) (TK.ok_st (by kernel_rfl))
theorem ty31 : TOk Tryz.prog 31 (((31, ⟨.st [(5, 0), (3, 1), (3, 2), (2, 3), (9, 4)], 5, 48, [.i .u8 0, .i .i64 0, .i .i64 0, .i .i64 0, .s []]⟩) : Nat × TI).2) := TOk.of (ti := Tryz.t31) (by kernel_rfl) (by kernel_rfl) (by kernel_rfl) (TK.ok_st (by kernel_rfl))
theorem ty34 : TOk Tryz.prog 34 (((34, ⟨.int .i64, 1, 8, [.i .i64 0]⟩) : Nat × TI).2) := TOk.of (ti := Tryz.t34) (by kernel_rfl) (by kernel_rfl) (by kernel_rfl) (show Tryz.prog.underlying 34 = some (.int .i64) from by kernel_rfl)
theorem ty45 : TOk Tryz.prog 45 (((45, ⟨.sl 54, 1, 24, [.sl .full []]⟩) : Nat × TI).2) := TOk.of (ti := Tryz.t45) (by kernel_rfl) (by kernel_rfl) (by kernel_rfl) (show Tryz.prog.underlying 45 = some (.slice 54) from by kernel_rfl)
theorem ty46 : TOk Tryz.prog 46 (((46, ⟨.sl 113, 1, 24, [.sl .full []]⟩) : Nat × TI).2) := TOk.of (ti := Tryz.t46) (by kernel_rfl) (by kernel_rfl) (by kernel_rfl) (show Tryz.prog.underlying 46 = some (.slice 113) from by kernel_rfl)
theorem ty47 : TOk Tryz.prog 47 (((47, ⟨.sl 89, 1, 24, [.sl .full []]⟩) : Nat × TI).2) := TOk.of (ti := Tryz.t47) (by kernel_rfl) (by kernel_rfl) (by kernel_rfl) (show Tryz.prog.underlying 47 = some (.slice 89) from by kernel_rfl)
theorem ty49 : TOk Tryz.prog 49 (((49, ⟨.st [(5, 0), (2, 1), (45, 2), (46, 3), (47, 4)], 5, 88, [.i .u8 0, .i .i64 0, .sl .full [], .sl .full [], .sl .full []]⟩) : Nat × TI).2) := TOk.of (ti := Tryz.t49) (by kernel_rfl) (by kernel_rfl) (by kernel_rfl) (TK.ok_st (by kernel_rfl))
theorem ty51 : TOk Tryz.prog 51 (((51, ⟨.int .u64, 1, 8, [.i .u64 0]⟩) : Nat × TI).2) := TOk.of (ti := Tryz.t51) (by kernel_rfl) (by kernel_rfl) (by kernel_rfl) (show Tryz.prog.underlying 51 = some (.int .u64) from by kernel_rfl)
theorem ty52 : TOk Tryz.prog 52 (((52, ⟨.sl 66, 1, 24, [.sl .full []]⟩) : Nat × TI).2) := TOk.of (ti := Tryz.t52) (by kernel_rfl) (by kernel_rfl) (by kernel_rfl) (show Tryz.prog.underlying 52 = some (.slice 66) from by kernel_rfl)
theorem ty54 : TOk Tryz.prog 54 (((54, ⟨.st [(3, 0), (3, 1), (51, 2), (52, 3)], 4, 48, [.i .i64 0, .i .i64 0, .i .u64 0, .sl .full []]⟩) : Nat × TI).2) := TOk.of (ti := Tryz.t54) (by kernel_rfl) (by kernel_rfl) (by kernel_rfl) (TK.ok_st (by kernel_rfl))
theorem ty55 : TOk Tryz.prog 55 (((55, ⟨.sl 68, 1, 24, [.sl .full []]⟩) : Nat × TI).2) := TOk.of (ti := Tryz.t55) (by kernel_rfl) (by kernel_rfl) (by kernel_rfl) (show Tryz.prog.underlying 55 = some (.slice 68) from by kernel_rfl)
theorem ty56 : TOk Tryz.prog 56 (((56, ⟨.sl 214, 1, 24, [.sl .full []]⟩) : Nat × TI).2) := TOk.of (ti := Tryz.t56) (by kernel_rfl) (by kernel_rfl) (by kernel_rfl) (show Tryz.prog.underlying 56 = some (.slice 214) from by kernel_rfl)
theorem ty57 : TOk Tryz.prog 57 (((57, ⟨.sl 216, 1, 24, [.sl .full []]⟩) : Nat × TI).2) := TOk.of (ti := Tryz.t57) (by kernel_rfl) (by kernel_rfl) (by kernel_rfl) (show Tryz.prog.underlying 57 = some (.slice 216) from by kernel_rfl)
theorem ty59 : TOk Tryz.prog 59 (((59, ⟨.st [(9, 0), (3, 1), (3, 2), (55, 3), (56, 4), (57, 5), (57, 6)], 7, 128, [.s [], .i .i64 0, .i .i64 0, .sl .full [], .sl .full [], .sl .full [], .sl .full []]⟩) : Nat × TI).2) := TOk.of (ti := Tryz.t59) (by kernel_rfl) (by kernel_rfl) (by kernel_rfl) (TK.ok_st (by kernel_rfl))
theorem ty62 : TOk Tryz.prog 62 (((62, ⟨.sl 64, 1, 24, [.sl .full []]⟩) : Nat × TI).2) := TOk.of (ti := Tryz.t62) (by kernel_rfl) (by kernel_rfl) (by kernel_rfl) (show Tryz.prog.underlying 62 = some (.slice 64) from by kernel_rfl)
theorem ty64 : TOk Tryz.prog 64 (((64, ⟨.st [(5, 0), (2, 1), (9, 2), (62, 3), (4, 4)], 5, 64, [.i .u8 0, .i .i64 0, .s [], .sl .full [], .b false]⟩) : Nat × TI).2) := TOk.of (ti := Tryz.t64) (by kernel_rfl) (by kernel_rfl) (by kernel_rfl) (TK.ok_st (by kernel_rfl))
theorem ty66 : TOk Tryz.prog 66 (((66, ⟨.st [(3, 0), (64, 1)], 6, 72, [.i .i64 0, .i .u8 0, .i .i64 0, .s [], .sl .full [], .b false]⟩) : Nat × TI).2) := TOk.of (ti := Tryz.t66) (by kernel_rfl) (by kernel_rfl) (by kernel_rfl) (TK.ok_st (by kernel_rfl))
theorem ty68 : TOk Tryz.prog 68 (((68, ⟨.st [(9, 0), (3, 1)], 2, 24, [.s [], .i .i64 0]⟩) : Nat × TI).2) := TOk.of (ti := Tryz.t68) (by kernel_rfl) (by kernel_rfl) (by kernel_rfl) (TK.ok_st (by kernel_rfl))
theorem ty72 : TOk Tryz.prog 72 (((72, ⟨.other, 1, 8, [.nf]⟩) : Nat × TI).2) := TOk.of (ti := Tryz.t72) (by kernel_rfl) (by kernel_rfl) (by kernel_rfl) (TK.ok_other (by kernel_rfl))
theorem ty75 : TOk Tryz.prog 75 (((75, ⟨.ptr 77, 1, 8, [.np]⟩) : Nat × TI).2) := TOk.of (ti := Tryz.t75) (by kernel_rfl) (by kernel_rfl) (by kernel_rfl) (And.intro (by kernel_rfl) (by kernel_rfl))
theorem ty77 : TOk Tryz.prog 77 (((77, ⟨.st [(26, 0), (29, 3), (31, 7), (23, 12)], 13, 192, [.sl .full [], .sl .full [], .sl .full [], .i .u8 0, .i .i64 0, .i .i64 0, .sl .full [], .i .u8 0, .i .i64 0, .i .i64 0, .i .i64 0, .s [], .sl .full []]⟩) : Nat × TI).2) := TOk.of (ti := Tryz.t77) (by kernel_rfl) (by kernel_rfl) (by kernel_rfl) (TK.ok_st (by kernel_rfl))
theorem ty80 : TOk Tryz.prog 80 (((80, ⟨.other, 1, 8, [.nf]⟩) : Nat × TI).2) := TOk.of (ti := Tryz.t80) (by kernel_rfl) (by kernel_rfl) (by kernel_rfl) (TK.ok_other (by kernel_rfl))
theorem ty89 : TOk Tryz.prog 89 (((89, ⟨.st [(51, 0), (64, 1), (51, 6)], 7, 80, [.i .u64 0, .i .u8 0, .i .i64 0, .s [], .sl .full [], .b false, .i .u64 0]⟩) : Nat × TI).2) := TOk.of (ti := Tryz.t89) (by kernel_rfl) (by kernel_rfl) (by kernel_rfl) (TK.ok_st (by kernel_rfl))
theorem ty99 : TOk Tryz.prog 99 (((99, ⟨.ptr 102, 1, 8, [.np]⟩) : Nat × TI).2) := TOk.of (ti := Tryz.t99) (by kernel_rfl) (by kernel_rfl) (by kernel_rfl) (And.intro (by kernel_rfl) (by kernel_rfl))
theorem ty100 : TOk Tryz.prog 100 (((100, ⟨.sl 5, 1, 24, [.sl .full []]⟩) : Nat × TI).2) := TOk.of (ti := Tryz.t100) (by kernel_rfl) (by kernel_rfl) (by kernel_rfl) (show Tryz.prog.underlying 100 = some (.slice 5) from by kernel_rfl)
theorem ty102 : TOk Tryz.prog 102 (((102, ⟨.st [(99, 0), (100, 1)], 2, 32, [.np, .sl .full []]⟩) : Nat × TI).2) := TOk.of (ti := Tryz.t102) (by kernel_rfl) (by kernel_rfl) (by kernel_rfl) (TK.ok_st (by kernel_rfl))
theorem ty108 : TOk Tryz.prog 108 (((108, ⟨.arr 4 9, 4, 64, [.s [], .s [], .s [], .s []]⟩) : Nat × TI).2) := TOk.of (ti := Tryz.t108) (by kernel_rfl) (by kernel_rfl) (by kernel_rfl) (show Tryz.prog.underlying 108 = some (.array 4 9) from by kernel_rfl)
theorem ty110 : TOk Tryz.prog 110 (((110, ⟨.other, 1, 8, [.nf]⟩) : Nat × TI).2) := TOk.of (ti := Tryz.t110) (by kernel_rfl) (by kernel_rfl) (by kernel_rfl) (TK.ok_other (by kernel_rfl))
theorem ty113 : TOk Tryz.prog 113 (((113, ⟨.st [(3, 0), (3, 1), (4, 2), (64, 3)], 8, 88, [.i .i64 0, .i .i64 0, .b false, .i .u8 0, .i .i64 0, .s [], .sl .full [], .b false]⟩) : Nat × TI).2) := TOk.of (ti := Tryz.t113) (by kernel_rfl) (by kernel_rfl) (by kernel_rfl) (TK.ok_st (by kernel_rfl))
theorem ty123 : TOk Tryz.prog 123 (((123, ⟨.mp, 1, 8, [.u]⟩) : Nat × TI).2) := TOk.of (ti := Tryz.t123) (by kernel_rfl) (by kernel_rfl) (by kernel_rfl) (Exists.intro 9 (Exists.intro 5 (And.intro (by kernel_rfl) (And.intro (by kernel_rfl) fun w => by kernel_rfl))))
theorem ty137 : TOk Tryz.prog 137 (((137, ⟨.arr 8 9, 8, 128, [.s [], .s [], .s [], .s [], .s [], .s [], .s [], .s []]⟩) : Nat × TI).2) := TOk.of (ti := Tryz.t137) (by kernel_rfl) (by kernel_rfl) (by kernel_rfl) (show Tryz.prog.underlying 137 = some (.array 8 9) from by kernel_rfl)
theorem ty139 : TOk Tryz.prog 139 (((139, ⟨.other, 1, 16, [.ni]⟩) : Nat × TI).2) := TOk.of (ti := Tryz.t139) (by kernel_rfl) (by kernel_rfl) (by kernel_rfl) (TK.ok_other (by kernel_rfl))
theorem ty148 : TOk Tryz.prog 148 (((148, ⟨.other, 1, 8, [.nf]⟩) : Nat × TI).2) := TOk.of (ti := Tryz.t148) (by kernel_rfl) (by kernel_rfl) (by kernel_rfl) (TK.ok_other (by kernel_rfl))
theorem ty151 : TOk Tryz.prog 151 (((151, ⟨.other, 1, 8, [.nf]⟩) : Nat × TI).2) := TOk.of (ti := Tryz.t151) (by kernel_rfl) (by kernel_rfl) (by kernel_rfl) (TK.ok_other (by kernel_rfl))
theorem ty171 : TOk Tryz.prog 171 (((171, ⟨.other, 1, 8, [.nf]⟩) : Nat × TI).2) := TOk.of (ti := Tryz.t171) (by kernel_rfl) (by kernel_rfl) (by kernel_rfl) (TK.ok_other (by kernel_rfl))
theorem ty174 : TOk Tryz.prog 174 (((174, ⟨.arr 5 5, 5, 5, [.i .u8 0, .i .u8 0, .i .u8 0, .i .u8 0, .i .u8 0]⟩) : Nat × TI).2) := TOk.of (ti := Tryz.t174) (by kernel_rfl) (by kernel_rfl) (by kernel_rfl) (show Tryz.prog.underlying 174 = some (.array 5 5) from by kernel_rfl)
theorem ty177 : TOk Tryz.prog 177 (((177, ⟨.arr 64 5, 64, 64, [.i .u8 0, .i .u8 0, .i .u8 0, .i .u8 0, .i .u8 0, .i .u8 0, .i .u8 0, .i .u8 0, .i .u8 0, .i .u8 0, .i .u8 0, .i .u8 0, .i .u8 0, .i .u8 0, .i .u8 0, .i .u8 0, .i .u8 0, .i .u8 0, .i .u8 0, .i .u8 0, .i .u8 0, .i .u8 0, .i .u8 0, .i .u8 0, .i .u8 0, .i .u8 0, .i .u8 0, .i .u8 0, .i .u8 0, .i .u8 0, .i .u8 0, .i .u8 0, .i .u8 0, .i .u8 0, .i .u8 0, .i .u8 0, .i .u8 0, .i .u8 0, .i .u8 0, .i .u8 0, .i .u8 0, .i .u8 0, .i .u8 0, .i .u8 0, .i .u8 0, .i .u8 0, .i .u8 0, .i .u8 0, .i .u8 0, .i .u8 0, .i .u8 0, .i .u8 0, .i .u8 0, .i .u8 0, .i .u8 0, .i .u8 0, .i .u8 0, .i .u8 0, .i .u8 0, .i .u8 0, .i .u8 0, .i .u8 0, .i .u8 0, .i .u8 0]⟩) : Nat × TI).2) := TOk.of (ti := Tryz.t177) (by kernel_rfl) (by kernel_rfl) (by kernel_rfl) (show Tryz.prog.underlying 177 = some (.array 64 5) from by kernel_rfl)
theorem ty186 : TOk Tryz.prog 186 (((186, ⟨.uptr, 1, 8, [.np]⟩) : Nat × TI).2) := TOk.of (ti := Tryz.t186) (by kernel_rfl) (by kernel_rfl) (by kernel_rfl) (show Tryz.prog.underlying 186 = some (.unsafePointer) from by kernel_rfl)
theorem ty212 : TOk Tryz.prog 212 (((212, ⟨.st [(5, 0), (3, 1), (3, 2), (55, 3)], 4, 48, [.i .u8 0, .i .i64 0, .i .i64 0, .sl .full []]⟩) : Nat × TI).2) := TOk.of (ti := Tryz.t212) (by kernel_rfl) (by kernel_rfl) (by kernel_rfl) (TK.ok_st (by kernel_rfl))
theorem ty214 : TOk Tryz.prog 214 (((214, ⟨.st [(5, 0), (3, 1), (3, 2), (3, 3)], 4, 32, [.i .u8 0, .i .i64 0, .i .i64 0, .i .i64 0]⟩) : Nat × TI).2) := TOk.of (ti := Tryz.t214) (by kernel_rfl) (by kernel_rfl) (by kernel_rfl) (TK.ok_st (by kernel_rfl))
theorem ty216 : TOk Tryz.prog 216 (((216, ⟨.st [(3, 0), (51, 1)], 2, 16, [.i .i64 0, .i .u64 0]⟩) : Nat × TI).2) := TOk.of (ti := Tryz.t216) (by kernel_rfl) (by kernel_rfl) (by kernel_rfl) (TK.ok_st (by kernel_rfl))
theorem tys_ok : ∀ x ∈ tys, TOk Tryz.prog x.1 x.2 := by
  unfold tys
  simp only [List.mem_cons, List.not_mem_nil, or_false, forall_eq_or_imp, forall_eq]
  exact ⟨ty2, ty3, ty4, ty5, ty9, ty22, ty23, ty24, ty26, ty27, ty29, ty31, ty34, ty45, ty46, ty47, ty49, ty51, ty52, ty54, ty55, ty56, ty57, ty59, ty62, ty64, ty66, ty68, ty72, ty75, ty77, ty80, ty89, ty99, ty100, ty102, ty108, ty110, ty113, ty123, ty137, ty139, ty148, ty151, ty171, ty174, ty177, ty186, ty212, ty214, ty216⟩
def fms : List (Nat × Nat) := [(2, 2), (3, 277), (4, 278), (5, 279), (6, 79), (7, 203), (8, 264), (9, 280), (10, 254), (11, 281), (12, 29), (13, 256), (14, 282), (15, 16), (16, 72), (17, 207), (18, 204), (19, 247), (20, 213), (21, 268), (22, 269), (23, 270), (24, 271), (25, 272), (26, 273), (27, 274), (28, 275), (29, 248), (30, 214), (31, 283), (32, 114), (33, 284), (34, 285), (35, 179), (36, 245), (37, 246), (38, 252), (39, 253), (40, 251), (41, 35), (42, 76), (43, 104), (44, 105), (45, 219), (46, 220), (47, 216), (48, 15), (49, 162), (50, 80), (51, 71), (52, 224), (53, 225), (54, 276), (55, 258), (56, 221), (57, 222), (58, 265), (59, 106), (60, 137), (61, 31), (62, 138), (63, 260), (64, 261), (65, 257), (66, 243), (67, 262), (68, 263), (69, 22), (70, 26), (71, 259), (72, 255), (73, 109), (74, 126), (75, 11), (76, 227), (77, 228), (78, 86), (79, 229), (80, 230), (81, 231), (82, 232), (83, 233), (84, 158), (85, 82), (86, 234), (87, 154), (88, 34), (89, 102), (90, 103), (91, 236), (92, 163), (93, 87), (94, 235), (95, 226), (96, 127), (97, 41), (98, 266), (99, 267), (100, 21), (101, 25), (102, 38), (103, 40), (104, 145), (105, 30), (106, 237), (107, 122), (108, 123), (109, 238), (110, 239), (111, 183), (112, 111), (113, 112), (114, 113), (115, 178), (116, 159), (117, 77), (118, 78), (119, 197), (120, 36), (121, 37), (122, 39), (123, 44), (124, 146), (125, 144), (126, 110), (127, 47), (129, 199), (130, 200), (131, 42), (132, 43), (133, 45), (134, 136), (135, 48), (136, 201), (137, 46), (1000000000000, 1000000102), (1000000000001, 1000000005), (1000000000003, 1000000077)]
def X : Cx := ⟨tabOf tys, fmOf fms, fun c => [30, 89, 104, 105, 107, 115, 116, 117, 120, 122, 123, 126, 128, 129, 130, 131, 139, 140, 144, 145, 146, 184, 217, 224, 225, 227, 228, 229, 230, 232, 233, 236, 237, 238, 239, 252, 268, 269, 270, 271, 272, 273, 274, 275, 276].contains c, []⟩
theorem ok42 : FnOk Tryz.prog X 131 pf42 := FnOk.of Tryz.func131 (by kernel_rfl) (by kernel_rfl) (by kernel_rfl) (by kernel_rfl) (by kernel_rfl)
theorem ok46 : FnOk Tryz.prog X 137 pf46 := FnOk.of Tryz.func137 (by kernel_rfl) (by kernel_rfl) (by kernel_rfl) (by kernel_rfl) (by kernel_rfl)
theorem ok36 : FnOk Tryz.prog X 120 pf36 := FnOk.of Tryz.func120 (by kernel_rfl) (by kernel_rfl) (by kernel_rfl) (by kernel_rfl) (by kernel_rfl)
theorem ok43 : FnOk Tryz.prog X 132 pf43 := FnOk.of Tryz.func132 (by kernel_rfl) (by kernel_rfl) (by kernel_rfl) (by kernel_rfl) (by kernel_rfl)
theorem ok47 : FnOk Tryz.prog X 127 pf47 := FnOk.of Tryz.func127 (by kernel_rfl) (by kernel_rfl) (by kernel_rfl) (by kernel_rfl) (by kernel_rfl)
theorem ok11 : FnOk Tryz.prog X 75 pf11 := FnOk.of Tryz.func75 (by kernel_rfl) (by kernel_rfl) (by kernel_rfl) (by kernel_rfl) (by kernel_rfl)
theorem ok15 : FnOk Tryz.prog X 48 pf15 := FnOk.of Tryz.func48 (by kernel_rfl) (by kernel_rfl) (by kernel_rfl) (by kernel_rfl) (by kernel_rfl)
theorem ok21 : FnOk Tryz.prog X 100 pf21 := FnOk.of Tryz.func100 (by kernel_rfl) (by kernel_rfl) (by kernel_rfl) (by kernel_rfl) (by kernel_rfl)
theorem ok25 : FnOk Tryz.prog X 101 pf25 := FnOk.of Tryz.func101 (by kernel_rfl) (by kernel_rfl) (by kernel_rfl) (by kernel_rfl) (by kernel_rfl)
theorem ok30 : FnOk Tryz.prog X 105 pf30 := FnOk.of Tryz.func105 (by kernel_rfl) (by kernel_rfl) (by kernel_rfl) (by kernel_rfl) (by kernel_rfl)
theorem ok34 : FnOk Tryz.prog X 88 pf34 := FnOk.of Tryz.func88 (by kernel_rfl) (by kernel_rfl) (by kernel_rfl) (by kernel_rfl) (by kernel_rfl)
theorem ok37 : FnOk Tryz.prog X 121 pf37 := FnOk.of Tryz.func121 (by kernel_rfl) (by kernel_rfl) (by kernel_rfl) (by kernel_rfl) (by kernel_rfl)
theorem ok39 : FnOk Tryz.prog X 122 pf39 := FnOk.of Tryz.func122 (by kernel_rfl) (by kernel_rfl) (by kernel_rfl) (by kernel_rfl) (by kernel_rfl)
theorem ok45 : FnOk Tryz.prog X 133 pf45 := FnOk.of Tryz.func133 (by kernel_rfl) (by kernel_rfl) (by kernel_rfl) (by kernel_rfl) (by kernel_rfl)
theorem ok16 : FnOk Tryz.prog X 15 pf16 := FnOk.of Tryz.func15 (by kernel_rfl) (by kernel_rfl) (by kernel_rfl) (by kernel_rfl) (by kernel_rfl)
theorem ok29 : FnOk Tryz.prog X 12 pf29 := FnOk.of Tryz.func12 (by kernel_rfl) (by kernel_rfl) (by kernel_rfl) (by kernel_rfl) (by kernel_rfl)
theorem ok35 : FnOk Tryz.prog X 41 pf35 := FnOk.of Tryz.func41 (by kernel_rfl) (by kernel_rfl) (by kernel_rfl) (by kernel_rfl) (by kernel_rfl)
theorem ok197 : FnOk Tryz.prog X 119 pf197 := FnOk.of Tryz.func119 (by kernel_rfl) (by kernel_rfl) (by kernel_rfl) (by kernel_rfl) (by kernel_rfl)

theorem words_enter (w : World) : (callFunc 65 #[]).run Tryz.prog w = .ok (.enter 65 #[]) w ∧ Calls Tryz.prog 65 #[] w (WordsR w) := ⟨callFunc_enter Tryz.func65 (by kernel_rfl) (code := .seq (.region 0 (regOps (sA (bodyOf Tryz.f65))) false) (.seq (.region 1 (regOps (sA (sB (bodyOf Tryz.f65)))) false) .ret)) (by kernel_rfl) #[], words_calls Tryz.func65 (ops0 := regOps (sA (bodyOf Tryz.f65))) (ops1 := regOps (sA (sB (bodyOf Tryz.f65)))) (by kernel_rfl) (by kernel_rfl) (by kernel_rfl) (show Tryz.prog.underlying 123 = some (.map 9 5) from by kernel_rfl) (show Tryz.prog.underlying 9 = some .string from by kernel_rfl) ⟨by kernel_rfl, of_nog (by kernel_rfl)⟩ ⟨by kernel_rfl, of_nog (by kernel_rfl)⟩ w⟩
theorem good243 : GoodF Tryz.prog X pf243 (bodyOf Tryz.f66) := Go.AM.good243 (x1 := aA b243) (x2 := aA (aB b243)) (x4 := aA (aB (aB b243))) (x5 := aB (aB (aB (aB b243)))) rfl (by kernel_rfl) (by kernel_rfl) (by kernel_rfl) (by kernel_rfl) (by kernel_rfl) fun hT d =>
  range_hand (fw := 65) (tm := 123) (ts := 31) (t5 := 5) (k := 9) (e := 5) (Nat.le_of_ble_eq_true rfl) (show Tryz.prog.underlying 123 = some (.map 9 5) from by kernel_rfl) hT (ty31 : TOk Tryz.prog 31 _).kind rfl rfl rfl rfl words_enter ⟨by kernel_rfl, of_nog (by kernel_rfl)⟩ ⟨by kernel_rfl, of_nog (by kernel_rfl)⟩ ⟨by kernel_rfl, of_nog (by kernel_rfl)⟩ ⟨by kernel_rfl, of_nog (by kernel_rfl)⟩ ⟨by kernel_rfl, of_nog (by kernel_rfl)⟩
theorem ok243 : FnOk Tryz.prog X 66 pf243 := FnOk.ofG Tryz.func66 (by kernel_rfl) (by kernel_rfl) good243 (by kernel_rfl) (by kernel_rfl) (by kernel_rfl)
theorem ok245 : FnOk Tryz.prog X 36 pf245 := FnOk.of Tryz.func36 (by kernel_rfl) (by kernel_rfl) (by kernel_rfl) (by kernel_rfl) (by kernel_rfl)
theorem ok247 : FnOk Tryz.prog X 19 pf247 := FnOk.of Tryz.func19 (by kernel_rfl) (by kernel_rfl) (by kernel_rfl) (by kernel_rfl) (by kernel_rfl)
theorem ok258 : FnOk Tryz.prog X 55 pf258 := FnOk.of Tryz.func55 (by kernel_rfl) (by kernel_rfl) (by kernel_rfl) (by kernel_rfl) (by kernel_rfl)
theorem ok260 : FnOk Tryz.prog X 63 pf260 := FnOk.of Tryz.func63 (by kernel_rfl) (by kernel_rfl) (by kernel_rfl) (by kernel_rfl) (by kernel_rfl)
theorem ok261 : FnOk Tryz.prog X 64 pf261 := FnOk.of Tryz.func64 (by kernel_rfl) (by kernel_rfl) (by kernel_rfl) (by kernel_rfl) (by kernel_rfl)
theorem ok266 : FnOk Tryz.prog X 98 pf266 := FnOk.of Tryz.func98 (by kernel_rfl) (by kernel_rfl) (by kernel_rfl) (by kernel_rfl) (by kernel_rfl)
theorem ok267 : FnOk Tryz.prog X 99 pf267 := FnOk.of Tryz.func99 (by kernel_rfl) (by kernel_rfl) (by kernel_rfl) (by kernel_rfl) (by kernel_rfl)
theorem ok145 : FnOk Tryz.prog X 104 pf145 := FnOk.of Tryz.func104 (by kernel_rfl) (by kernel_rfl) (by kernel_rfl) (by kernel_rfl) (by kernel_rfl)
theorem ok126 : FnOk Tryz.prog X 74 pf126 := FnOk.of Tryz.func74 (by kernel_rfl) (by kernel_rfl) (by kernel_rfl) (by kernel_rfl) (by kernel_rfl)
theorem ok71 : FnOk Tryz.prog X 51 pf71 := FnOk.of Tryz.func51 (by kernel_rfl) (by kernel_rfl) (by kernel_rfl) (by kernel_rfl) (by kernel_rfl)
theorem ok72 : FnOk Tryz.prog X 16 pf72 := FnOk.of Tryz.func16 (by kernel_rfl) (by kernel_rfl) (by kernel_rfl) (by kernel_rfl) (by kernel_rfl)
theorem ok76 : FnOk Tryz.prog X 42 pf76 := FnOk.of Tryz.func42 (by kernel_rfl) (by kernel_rfl) (by kernel_rfl) (by kernel_rfl) (by kernel_rfl)
theorem ok77 : FnOk Tryz.prog X 117 pf77 := FnOk.of Tryz.func117 (by kernel_rfl) (by kernel_rfl) (by kernel_rfl) (by kernel_rfl) (by kernel_rfl)
theorem ok78 : FnOk Tryz.prog X 118 pf78 := FnOk.of Tryz.func118 (by kernel_rfl) (by kernel_rfl) (by kernel_rfl) (by kernel_rfl) (by kernel_rfl)
theorem ok102 : FnOk Tryz.prog X 89 pf102 := FnOk.of Tryz.func89 (by kernel_rfl) (by kernel_rfl) (by kernel_rfl) (by kernel_rfl) (by kernel_rfl)
theorem ok103 : FnOk Tryz.prog X 90 pf103 := FnOk.of Tryz.func90 (by kernel_rfl) (by kernel_rfl) (by kernel_rfl) (by kernel_rfl) (by kernel_rfl)
theorem ok104 : FnOk Tryz.prog X 43 pf104 := FnOk.of Tryz.func43 (by kernel_rfl) (by kernel_rfl) (by kernel_rfl) (by kernel_rfl) (by kernel_rfl)
theorem ok109 : FnOk Tryz.prog X 73 pf109 := FnOk.of Tryz.func73 (by kernel_rfl) (by kernel_rfl) (by kernel_rfl) (by kernel_rfl) (by kernel_rfl)
theorem ok110 : FnOk Tryz.prog X 126 pf110 := FnOk.of Tryz.func126 (by kernel_rfl) (by kernel_rfl) (by kernel_rfl) (by kernel_rfl) (by kernel_rfl)
theorem ok136 : FnOk Tryz.prog X 134 pf136 := FnOk.of Tryz.func134 (by kernel_rfl) (by kernel_rfl) (by kernel_rfl) (by kernel_rfl) (by kernel_rfl)
theorem ok154 : FnOk Tryz.prog X 87 pf154 := FnOk.of Tryz.func87 (by kernel_rfl) (by kernel_rfl) (by kernel_rfl) (by kernel_rfl) (by kernel_rfl)
theorem ok158 : FnOk Tryz.prog X 84 pf158 := FnOk.of Tryz.func84 (by kernel_rfl) (by kernel_rfl) (by kernel_rfl) (by kernel_rfl) (by kernel_rfl)
theorem ok159 : FnOk Tryz.prog X 116 pf159 := FnOk.of Tryz.func116 (by kernel_rfl) (by kernel_rfl) (by kernel_rfl) (by kernel_rfl) (by kernel_rfl)
theorem ok178 : FnOk Tryz.prog X 115 pf178 := FnOk.of Tryz.func115 (by kernel_rfl) (by kernel_rfl) (by kernel_rfl) (by kernel_rfl) (by kernel_rfl)
theorem ok183 : FnOk Tryz.prog X 111 pf183 := FnOk.of Tryz.func111 (by kernel_rfl) (by kernel_rfl) (by kernel_rfl) (by kernel_rfl) (by kernel_rfl)
theorem ok162 : FnOk Tryz.prog X 49 pf162 := FnOk.of Tryz.func49 (by kernel_rfl) (by kernel_rfl) (by kernel_rfl) (by kernel_rfl) (by kernel_rfl)
theorem ok163 : FnOk Tryz.prog X 92 pf163 := FnOk.of Tryz.func92 (by kernel_rfl) (by kernel_rfl) (by kernel_rfl) (by kernel_rfl) (by kernel_rfl)
theorem ok79 : FnOk Tryz.prog X 6 pf79 := FnOk.of Tryz.func6 (by kernel_rfl) (by kernel_rfl) (by kernel_rfl) (by kernel_rfl) (by kernel_rfl)
theorem ok80 : FnOk Tryz.prog X 50 pf80 := FnOk.of Tryz.func50 (by kernel_rfl) (by kernel_rfl) (by kernel_rfl) (by kernel_rfl) (by kernel_rfl)
theorem ok82 : FnOk Tryz.prog X 85 pf82 := FnOk.of Tryz.func85 (by kernel_rfl) (by kernel_rfl) (by kernel_rfl) (by kernel_rfl) (by kernel_rfl)
theorem ok86 : FnOk Tryz.prog X 78 pf86 := FnOk.of Tryz.func78 (by kernel_rfl) (by kernel_rfl) (by kernel_rfl) (by kernel_rfl) (by kernel_rfl)
theorem ok87 : FnOk Tryz.prog X 93 pf87 := FnOk.of Tryz.func93 (by kernel_rfl) (by kernel_rfl) (by kernel_rfl) (by kernel_rfl) (by kernel_rfl)
theorem ok111 : FnOk Tryz.prog X 112 pf111 := FnOk.of Tryz.func112 (by kernel_rfl) (by kernel_rfl) (by kernel_rfl) (by kernel_rfl) (by kernel_rfl)
theorem ok112 : FnOk Tryz.prog X 113 pf112 := FnOk.of Tryz.func113 (by kernel_rfl) (by kernel_rfl) (by kernel_rfl) (by kernel_rfl) (by kernel_rfl)
theorem ok113 : FnOk Tryz.prog X 114 pf113 := FnOk.of Tryz.func114 (by kernel_rfl) (by kernel_rfl) (by kernel_rfl) (by kernel_rfl) (by kernel_rfl)
theorem ok122 : FnOk Tryz.prog X 107 pf122 := FnOk.of Tryz.func107 (by kernel_rfl) (by kernel_rfl) (by kernel_rfl) (by kernel_rfl) (by kernel_rfl)
theorem ok123 : FnOk Tryz.prog X 108 pf123 := FnOk.of Tryz.func108 (by kernel_rfl) (by kernel_rfl) (by kernel_rfl) (by kernel_rfl) (by kernel_rfl)
theorem ok144 : FnOk Tryz.prog X 125 pf144 := FnOk.of Tryz.func125 (by kernel_rfl) (by kernel_rfl) (by kernel_rfl) (by kernel_rfl) (by kernel_rfl)
theorem ok203 : FnOk Tryz.prog X 7 pf203 := FnOk.of Tryz.func7 (by kernel_rfl) (by kernel_rfl) (by kernel_rfl) (by kernel_rfl) (by kernel_rfl)
theorem ok204 : FnOk Tryz.prog X 18 pf204 := FnOk.of Tryz.func18 (by kernel_rfl) (by kernel_rfl) (by kernel_rfl) (by kernel_rfl) (by kernel_rfl)
theorem ok207 : FnOk Tryz.prog X 17 pf207 := FnOk.of Tryz.func17 (by kernel_rfl) (by kernel_rfl) (by kernel_rfl) (by kernel_rfl) (by kernel_rfl)
theorem ok213 : FnOk Tryz.prog X 20 pf213 := FnOk.of Tryz.func20 (by kernel_rfl) (by kernel_rfl) (by kernel_rfl) (by kernel_rfl) (by kernel_rfl)
theorem ok214 : FnOk Tryz.prog X 30 pf214 := FnOk.of Tryz.func30 (by kernel_rfl) (by kernel_rfl) (by kernel_rfl) (by kernel_rfl) (by kernel_rfl)
theorem ok216 : FnOk Tryz.prog X 47 pf216 := FnOk.of Tryz.func47 (by kernel_rfl) (by kernel_rfl) (by kernel_rfl) (by kernel_rfl) (by kernel_rfl)
theorem ok219 : FnOk Tryz.prog X 45 pf219 := FnOk.of Tryz.func45 (by kernel_rfl) (by kernel_rfl) (by kernel_rfl) (by kernel_rfl) (by kernel_rfl)
theorem ok220 : FnOk Tryz.prog X 46 pf220 := FnOk.of Tryz.func46 (by kernel_rfl) (by kernel_rfl) (by kernel_rfl) (by kernel_rfl) (by kernel_rfl)
theorem ok221 : FnOk Tryz.prog X 56 pf221 := FnOk.of Tryz.func56 (by kernel_rfl) (by kernel_rfl) (by kernel_rfl) (by kernel_rfl) (by kernel_rfl)
theorem ok224 : FnOk Tryz.prog X 52 pf224 := FnOk.of Tryz.func52 (by kernel_rfl) (by kernel_rfl) (by kernel_rfl) (by kernel_rfl) (by kernel_rfl)
theorem ok225 : FnOk Tryz.prog X 53 pf225 := FnOk.of Tryz.func53 (by kernel_rfl) (by kernel_rfl) (by kernel_rfl) (by kernel_rfl) (by kernel_rfl)
theorem ok227 : FnOk Tryz.prog X 76 pf227 := FnOk.of Tryz.func76 (by kernel_rfl) (by kernel_rfl) (by kernel_rfl) (by kernel_rfl) (by kernel_rfl)
theorem ok228 : FnOk Tryz.prog X 77 pf228 := FnOk.of Tryz.func77 (by kernel_rfl) (by kernel_rfl) (by kernel_rfl) (by kernel_rfl) (by kernel_rfl)
theorem ok229 : FnOk Tryz.prog X 79 pf229 := FnOk.of Tryz.func79 (by kernel_rfl) (by kernel_rfl) (by kernel_rfl) (by kernel_rfl) (by kernel_rfl)
theorem ok230 : FnOk Tryz.prog X 80 pf230 := FnOk.of Tryz.func80 (by kernel_rfl) (by kernel_rfl) (by kernel_rfl) (by kernel_rfl) (by kernel_rfl)
theorem ok231 : FnOk Tryz.prog X 81 pf231 := FnOk.of Tryz.func81 (by kernel_rfl) (by kernel_rfl) (by kernel_rfl) (by kernel_rfl) (by kernel_rfl)
theorem ok232 : FnOk Tryz.prog X 82 pf232 := FnOk.of Tryz.func82 (by kernel_rfl) (by kernel_rfl) (by kernel_rfl) (by kernel_rfl) (by kernel_rfl)
theorem ok233 : FnOk Tryz.prog X 83 pf233 := FnOk.of Tryz.func83 (by kernel_rfl) (by kernel_rfl) (by kernel_rfl) (by kernel_rfl) (by kernel_rfl)
theorem ok234 : FnOk Tryz.prog X 86 pf234 := FnOk.of Tryz.func86 (by kernel_rfl) (by kernel_rfl) (by kernel_rfl) (by kernel_rfl) (by kernel_rfl)
theorem ok235 : FnOk Tryz.prog X 94 pf235 := FnOk.of Tryz.func94 (by kernel_rfl) (by kernel_rfl) (by kernel_rfl) (by kernel_rfl) (by kernel_rfl)
theorem ok236 : FnOk Tryz.prog X 91 pf236 := FnOk.of Tryz.func91 (by kernel_rfl) (by kernel_rfl) (by kernel_rfl) (by kernel_rfl) (by kernel_rfl)
theorem ok237 : FnOk Tryz.prog X 106 pf237 := FnOk.of Tryz.func106 (by kernel_rfl) (by kernel_rfl) (by kernel_rfl) (by kernel_rfl) (by kernel_rfl)
theorem ok238 : FnOk Tryz.prog X 109 pf238 := FnOk.of Tryz.func109 (by kernel_rfl) (by kernel_rfl) (by kernel_rfl) (by kernel_rfl) (by kernel_rfl)
theorem ok239 : FnOk Tryz.prog X 110 pf239 := FnOk.of Tryz.func110 (by kernel_rfl) (by kernel_rfl) (by kernel_rfl) (by kernel_rfl) (by kernel_rfl)
theorem ok264 : FnOk Tryz.prog X 8 pf264 := FnOk.of Tryz.func8 (by kernel_rfl) (by kernel_rfl) (by kernel_rfl) (by kernel_rfl) (by kernel_rfl)
theorem ok268 : FnOk Tryz.prog X 21 pf268 := FnOk.of Tryz.func21 (by kernel_rfl) (by kernel_rfl) (by kernel_rfl) (by kernel_rfl) (by kernel_rfl)
theorem ok269 : FnOk Tryz.prog X 22 pf269 := FnOk.of Tryz.func22 (by kernel_rfl) (by kernel_rfl) (by kernel_rfl) (by kernel_rfl) (by kernel_rfl)
theorem ok270 : FnOk Tryz.prog X 23 pf270 := FnOk.of Tryz.func23 (by kernel_rfl) (by kernel_rfl) (by kernel_rfl) (by kernel_rfl) (by kernel_rfl)
theorem ok271 : FnOk Tryz.prog X 24 pf271 := FnOk.of Tryz.func24 (by kernel_rfl) (by kernel_rfl) (by kernel_rfl) (by kernel_rfl) (by kernel_rfl)
theorem ok272 : FnOk Tryz.prog X 25 pf272 := FnOk.of Tryz.func25 (by kernel_rfl) (by kernel_rfl) (by kernel_rfl) (by kernel_rfl) (by kernel_rfl)
theorem ok273 : FnOk Tryz.prog X 26 pf273 := FnOk.of Tryz.func26 (by kernel_rfl) (by kernel_rfl) (by kernel_rfl) (by kernel_rfl) (by kernel_rfl)
theorem ok274 : FnOk Tryz.prog X 27 pf274 := FnOk.of Tryz.func27 (by kernel_rfl) (by kernel_rfl) (by kernel_rfl) (by kernel_rfl) (by kernel_rfl)
theorem ok275 : FnOk Tryz.prog X 28 pf275 := FnOk.of Tryz.func28 (by kernel_rfl) (by kernel_rfl) (by kernel_rfl) (by kernel_rfl) (by kernel_rfl)
theorem ok276 : FnOk Tryz.prog X 54 pf276 := FnOk.of Tryz.func54 (by kernel_rfl) (by kernel_rfl) (by kernel_rfl) (by kernel_rfl) (by kernel_rfl)
theorem ok251 : FnOk Tryz.prog X 40 pf251 := FnOk.of Tryz.func40 (by kernel_rfl) (by kernel_rfl) (by kernel_rfl) (by kernel_rfl) (by kernel_rfl)
theorem ok252 : FnOk Tryz.prog X 38 pf252 := FnOk.of Tryz.func38 (by kernel_rfl) (by kernel_rfl) (by kernel_rfl) (by kernel_rfl) (by kernel_rfl)
theorem ok253 : FnOk Tryz.prog X 39 pf253 := FnOk.of Tryz.func39 (by kernel_rfl) (by kernel_rfl) (by kernel_rfl) (by kernel_rfl) (by kernel_rfl)
theorem ok254 : FnOk Tryz.prog X 10 pf254 := FnOk.of Tryz.func10 (by kernel_rfl) (by kernel_rfl) (by kernel_rfl) (by kernel_rfl) (by kernel_rfl)
theorem ok255 : FnOk Tryz.prog X 72 pf255 := FnOk.of Tryz.func72 (by kernel_rfl) (by kernel_rfl) (by kernel_rfl) (by kernel_rfl) (by kernel_rfl)
theorem ok256 : FnOk Tryz.prog X 13 pf256 := FnOk.of Tryz.func13 (by kernel_rfl) (by kernel_rfl) (by kernel_rfl) (by kernel_rfl) (by kernel_rfl)
theorem ok282 : FnOk Tryz.prog X 14 pf282 := FnOk.of Tryz.func14 (by kernel_rfl) (by kernel_rfl) (by kernel_rfl) (by kernel_rfl) (by kernel_rfl)
theorem tyVal : TyVal X.T 64 := ⟨5, 2, 9, 62, 4, ⟨_, rfl, rfl, rfl⟩, ⟨_, rfl, rfl, rfl⟩, ⟨_, rfl, rfl, rfl⟩, ⟨_, rfl, rfl, rfl⟩, ⟨_, rfl, rfl, rfl⟩, ⟨_, rfl, rfl, rfl⟩⟩
theorem tyFld : TyFld X.T 68 := ⟨9, 3, ⟨_, rfl, rfl, rfl⟩, ⟨_, rfl, rfl, rfl⟩, ⟨_, rfl, rfl, rfl⟩⟩
theorem tyIns : TyIns X.T 214 := ⟨5, 3, 3, 3, ⟨_, rfl, rfl, rfl⟩, ⟨_, rfl, rfl, rfl⟩, ⟨_, rfl, rfl, rfl⟩, ⟨_, rfl, rfl, rfl⟩, ⟨_, rfl, rfl, rfl⟩⟩
theorem tyRnn : TyRnn X.T 216 := ⟨3, 51, ⟨_, rfl, rfl, rfl⟩, ⟨_, rfl, rfl, rfl⟩, ⟨_, rfl, rfl, rfl⟩⟩
theorem tyTyp : TyTyp X.T 212 := ⟨5, 3, 3, 55, 68, ⟨_, rfl, rfl, rfl⟩, ⟨_, rfl, rfl, rfl⟩, ⟨_, rfl, rfl, rfl⟩, ⟨_, rfl, rfl, rfl⟩, ⟨_, rfl, rfl, rfl⟩, tyFld⟩
theorem tyFun : TyFun X.T 59 := ⟨9, 3, 3, 55, 56, 57, 57, 68, 214, 216, 216, ⟨_, rfl, rfl, rfl⟩, ⟨_, rfl, rfl, rfl⟩, ⟨_, rfl, rfl, rfl⟩, ⟨_, rfl, rfl, rfl⟩, ⟨_, rfl, rfl, rfl⟩, tyFld, ⟨_, rfl, rfl, rfl⟩, tyIns, ⟨_, rfl, rfl, rfl⟩, tyRnn, ⟨_, rfl, rfl, rfl⟩, tyRnn⟩
theorem tyImg : TyImg X.T 26 := ⟨22, 23, 24, 212, 9, 59, ⟨_, rfl, rfl, rfl⟩, ⟨_, rfl, rfl, rfl⟩, tyTyp, ⟨_, rfl, rfl, rfl⟩, ⟨_, rfl, rfl, rfl⟩, ⟨_, rfl, rfl, rfl⟩, tyFun⟩
theorem tyLoc : TyLoc X.T 66 := ⟨3, 64, ⟨_, rfl, rfl, rfl⟩, ⟨_, rfl, rfl, rfl⟩, tyVal⟩
theorem tyFrm : TyFrm X.T 54 := ⟨3, 3, 51, 52, 66, ⟨_, rfl, rfl, rfl⟩, ⟨_, rfl, rfl, rfl⟩, ⟨_, rfl, rfl, rfl⟩, ⟨_, rfl, rfl, rfl⟩, ⟨_, rfl, rfl, rfl⟩, tyLoc⟩
theorem tyPan : TyPan X.T 89 := ⟨51, 64, 51, ⟨_, rfl, rfl, rfl⟩, ⟨_, rfl, rfl, rfl⟩, tyVal, ⟨_, rfl, rfl, rfl⟩⟩
theorem tyDfr : TyDfr X.T 113 := ⟨3, 3, 4, 64, ⟨_, rfl, rfl, rfl⟩, ⟨_, rfl, rfl, rfl⟩, ⟨_, rfl, rfl, rfl⟩, ⟨_, rfl, rfl, rfl⟩, tyVal⟩
theorem tyRou : TyRou X.T 49 := ⟨5, 2, 45, 46, 47, 54, 113, 89, ⟨_, rfl, rfl, rfl⟩, ⟨_, rfl, rfl, rfl⟩, ⟨_, rfl, rfl, rfl⟩, ⟨_, rfl, rfl, rfl⟩, tyFrm, ⟨_, rfl, rfl, rfl⟩, tyDfr, ⟨_, rfl, rfl, rfl⟩, tyPan⟩
theorem tySta : TySta X.T 29 := ⟨5, 3, 3, 27, 49, ⟨_, rfl, rfl, rfl⟩, ⟨_, rfl, rfl, rfl⟩, ⟨_, rfl, rfl, rfl⟩, ⟨_, rfl, rfl, rfl⟩, ⟨_, rfl, rfl, rfl⟩, tyRou⟩
theorem tyQry : TyQry X.T 31 := ⟨5, 3, 3, 2, 9, ⟨_, rfl, rfl, rfl⟩, ⟨_, rfl, rfl, rfl⟩, ⟨_, rfl, rfl, rfl⟩, ⟨_, rfl, rfl, rfl⟩, ⟨_, rfl, rfl, rfl⟩, ⟨_, rfl, rfl, rfl⟩⟩
end Go.Proofs.YtbcdfamilcmjnaaGreat

/- Parts of the proof. -/
namespace Go.AM
open Go
structure Has03 (prog:Prog):Prop where
 f42:prog.fn 42=some pf42
 f46:prog.fn 46=some pf46
 f36:prog.fn 36=some pf36
 f43:prog.fn 43=some pf43
 f47:prog.fn 47=some pf47
 f11:prog.fn 11=some pf11
 f15:prog.fn 15=some pf15
 f21:prog.fn 21=some pf21
 f25:prog.fn 25=some pf25
 f30:prog.fn 30=some pf30
 f34:prog.fn 34=some pf34
 f37:prog.fn 37=some pf37
 f39:prog.fn 39=some pf39
 f45:prog.fn 45=some pf45
 f16:prog.fn 16=some pf16
 f29:prog.fn 29=some pf29
 f35:prog.fn 35=some pf35
 f48:prog.fn 48=none
 o48 :∀(s:Bytes) (c:UInt8),prog.orac 48 [.s s,.i .u8 (c.toNat:Int)]=some (.i .i64 (Lib.indexByte s c))
section
variable {prog:Prog} (H:Has03 prog)
include H
theorem c30 {s b:Bytes} (hs:s.length≤10000000) (hb:b.length≤1000000000):PuA prog 30 (b.map row8) [.s s] ((b++quo s).map row8):=by
 refine PuAK.to ?_
 have hp:=p30 H.f30 (b0:=b) (s1:=s) (K:=fun x=>x=b++quo s) (by
  unfold T30_0 T30_1
  refine ⟨⟨by simp only [List.length_cons,List.length_nil,maxBytes_eq];omega,by simp only [List.length_cons,List.length_nil,maxBytes_eq];omega⟩,fun P hP=>?_⟩
  refine loop_up (fun i=>b++34::chrs (s.take i)) s.length ?_ ?_
  ·apply hP
   unfold T30_2 T30_4
   have h1:=chrs_len (s.take s.length)
   simp only [List.take_length] at h1 ⊢
   refine ⟨fun h=>absurd h (by omega),fun _=>⟨⟨?_,?_⟩,?_⟩⟩
   ·simp only [List.length_append,List.length_cons,List.length_nil,maxBytes_eq];omega
   ·simp only [List.length_append,List.length_cons,List.length_nil,maxBytes_eq];omega
   ·simp only [quo,List.append_assoc,List.cons_append]
  ·intro i hi ih
   apply hP
   have h1:=chrs_len (s.take i)
   have hc:=s[i].toNat_lt
   rw [chrs_take hi] at ih
   rw [← List.cons_append,← List.append_assoc] at ih
   generalize hx:s[i]=c at ih hc
   have w1:bShr .u8 (c.toNat:Int) 4=((c.toNat / 16:Nat):Int):=by
    show (c.toNat:Int).fdiv 16=_
    rw [Int.fdiv_eq_ediv_of_nonneg _ (by omega)];omega
   have w2:bAnd .u8 (c.toNat:Int) 15=((c.toNat % 16:Nat):Int):=by
    unfold bAnd
    have hx:(BitVec.ofInt IntKind.u8.bits (c.toNat:Int) &&& BitVec.ofInt IntKind.u8.bits 15).toNat=c.toNat % 16:=by
     show (BitVec.ofInt 8 (c.toNat:Int) &&& BitVec.ofInt 8 15).toNat=c.toNat % 16
     rw [BitVec.toNat_and]
     have h1:(BitVec.ofInt 8 (c.toNat:Int)).toNat=c.toNat:=by
      simp
     rw [h1]
     exact Nat.and_two_pow_sub_one_eq_mod c.toNat 4
    rw [hx]
    exact wr_u8 (by omega) (by omega)
   have fit :∀x:Bytes,x.length≤4→Fit ((b++34::chrs (s.take i)).length+x.length) 1:=by
    intro x hx
    simp only [List.length_take] at h1
    refine ⟨?_,?_⟩<;>(simp only [List.length_append,List.length_cons,maxBytes_eq];omega)
   unfold T30_2 T30_3
   rw [wr_succ (by omega)]
   refine ⟨fun _=>⟨by omega,c,by rw [toNat_cast,List.getElem?_eq_getElem hi,hx],?_⟩,fun h=>absurd (show (i:Int)<s.length by omega) h⟩
   simp only [w1,w2,toNat_cast,hexd_get (show c.toNat / 16<16 by omega),hexd_get (show c.toNat % 16<16 by omega),Option.some.injEq,exists_eq_left']
   unfold chr at ih
   refine ⟨fun h2=>⟨fit _ (by simp),?_⟩,fun h2=>⟨fun h3=>⟨fit _ (by simp),?_⟩,fun h3=>⟨fun h4=>⟨fit _ (by simp),?_⟩,fun h4=>⟨fun h5=>⟨by omega,by omega,fit _ (by simp),?_⟩,fun h5=>⟨fun h6=>⟨by omega,by omega,fit _ (by simp),?_⟩,fun h6=>⟨fit _ (by simp),?_⟩⟩⟩⟩⟩⟩
   ·rwa [if_pos (by omega)] at ih
   ·rwa [if_pos (by omega)] at ih
   ·rwa [if_neg (by omega),if_pos (by omega)] at ih
   ·rwa [if_neg (by omega),if_neg (by omega),if_pos (by omega)] at ih
   ·rwa [if_neg (by omega),if_neg (by omega),if_pos (by omega)] at ih
   ·rwa [if_neg (by omega),if_neg (by omega),if_neg (by omega)] at ih)
 intro d st o ha
 obtain ⟨o',st',rows',⟨x,rfl,rfl⟩,h1,h2⟩:=hp d st o ha
 exact ⟨o',st',_,rfl,h1,h2⟩
theorem c11 (s:Bytes):Pus prog 11 [.s s] (.tup [.s (quoR s).1,.i .i64 (quoR s).2]):=by
 obtain ⟨x,y,⟨rfl,rfl⟩,h⟩:=p11 H.f11 (s0:=s) (K:=fun x y=>x=(quoR s).1∧y=(quoR s).2) (by
  unfold T11_0 quoR
  refine ⟨fun h=>?_,fun h=>⟨_,c30 H (b:=[]) (s:=s) (by omega) (by simp),?_⟩⟩
  ·rw [if_pos (by omega)];exact ⟨rfl,rfl⟩
  ·rw [if_neg (by omega)];exact ⟨rfl,rfl⟩)
 exact h
theorem c34 {n b:Nat} (hb:2≤b) (hb':b≤16) (hn:n<18446744073709551616):Pus prog 34 [.i .u64 (n:Int),.i .u64 (b:Int)] (.s (digs b n)):=by
 obtain ⟨x,rfl,h⟩:=p34 H.f34 (n0:=(n:Int)) (base1:=(b:Int)) (K:=fun x=>x=digs b n) (by
  unfold T34_0
  intro P hP
  have key :∀f n',n'<b ^ f→0<f→n'<18446744073709551616→∀a:Nat,f≤a→a≤64→∀m:Bytes,m.length=64→(ds b f n'++m.drop a=digs b n)→P (n':Int) (a:Int) m:=by
   intro f
   induction f with
   | zero=>intro _ _ h;exact absurd h (Nat.lt_irrefl _)
   | succ f ih=>
    intro n' hf _ hn' a ha ha' m hm hd
    apply hP
    have e1:(n':Int).tmod (b:Int)=((n' % b:Nat):Int):=by rw [Int.tmod_eq_emod_of_nonneg (by omega)];omega
    have e2:(n':Int).tdiv (b:Int)=((n' / b:Nat):Int):=by rw [Int.tdiv_eq_ediv_of_nonneg (by omega)];omega
    have e3:IntKind.i64.wrap ((a:Int)-1)=((a-1:Nat):Int):=by rw [wr_i64 (by omega) (by omega)];omega
    have hq:n' / b≤n':=Nat.div_le_self _ _
    have hr:n' % b<b:=Nat.mod_lt _ (by omega)
    have e4:IntKind.u64.wrap ((n' / b:Nat):Int)=((n' / b:Nat):Int):=wr_u64_nat (by omega)
    have hset :∀c:UInt8,(m.set (a-1) c).drop (a-1)=c::m.drop a:=by
     intro c
     rw [List.drop_eq_getElem_cons (by simp;omega),List.getElem_set_self,List.drop_set_of_lt (by omega),show a-1+1=a by omega]
    unfold T34_1
    simp only [e1,e2,e3,e4,toNat_cast,hset]
    refine ⟨by omega,by omega,hexd (n' % b),hexd_get (by omega),by omega,by omega,by omega,by omega,fun h=>⟨by simp [hm],by omega,by omega,?_⟩,fun h=>?_⟩
    ·rw [← hd]
     unfold ds
     have hz:n' / b=0:=by omega
     have hlt:n'<b:=by
      rcases Nat.lt_or_ge n' b with h | h
      ·exact h
      ·have:=Nat.div_pos h (by omega);omega
     rw [if_pos hlt,Nat.mod_eq_of_lt hlt]
     rfl
    ·have hz:n' / b≠0:=by omega
     have hlt:¬ n'<b:=fun h=>hz (Nat.div_eq_of_lt h)
     have h1:n' / b<b ^ f:=by
      rw [Nat.div_lt_iff_lt_mul (by omega)]
      rw [Nat.pow_succ] at hf
      exact hf
     have h2:0<f:=by
      rcases Nat.eq_zero_or_pos f with rfl | h
      ·simp at h1;omega
      ·exact h
     refine ih (n' / b) h1 h2 (by omega) (a-1) (by omega) (by omega) _ (by simp [hm]) ?_
     rw [hset,← hd]
     conv=>rhs;unfold ds
     rw [if_neg hlt,List.append_assoc]
     rfl
  refine key 64 n ?_ (by omega) hn 64 (by omega) (by omega) _ (by simp) ?_
  ·calc n<2 ^ 64:=hn
    _≤b ^ 64:=Nat.pow_le_pow_left hb 64
  ·simp [digs])
 exact h
theorem c35 {n b:Nat} (hb:2≤b) (hb':b≤16) (hn:n<18446744073709551616):Pus prog 35 [.i .u64 (n:Int),.i .u64 (b:Int)] (.s (digs b n)):=by
 obtain ⟨x,rfl,h⟩:=p35 H.f35 (n0:=(n:Int)) (base1:=(b:Int)) (K:=fun x=>x=digs b n) (by
  unfold T35_0
  intro P hP
  have key :∀f n',n'<b ^ f→0<f→n'<18446744073709551616→f≤64→∀s:Bytes,s.length+f≤64→(ds b f n'++s=digs b n)→P (n':Int) s:=by
   intro f
   induction f with
   | zero=>intro _ _ h;exact absurd h (Nat.lt_irrefl _)
   | succ f ih=>
    intro n' hf _ hn' hf64 s hs hd
    apply hP
    have e1:(n':Int).tmod (b:Int)=((n' % b:Nat):Int):=by rw [Int.tmod_eq_emod_of_nonneg (by omega)];omega
    have e2:(n':Int).tdiv (b:Int)=((n' / b:Nat):Int):=by rw [Int.tdiv_eq_ediv_of_nonneg (by omega)];omega
    have hq:n' / b≤n':=Nat.div_le_self _ _
    have hr:n' % b<b:=Nat.mod_lt _ (by omega)
    have e4:IntKind.u64.wrap ((n' / b:Nat):Int)=((n' / b:Nat):Int):=wr_u64_nat (by omega)
    have e5:IntKind.u64.wrap (((n' % b:Nat):Int)+1)=((n' % b+1:Nat):Int):=by rw [wr_u64 (by omega) (by omega)];omega
    unfold T35_1
    refine ⟨fun h=>?_,fun h=>?_⟩
    ·simp only [e1,e2,e4,e5,toNat_cast,hexd_take (show n' % b<16 by omega) rfl,DIG_len]
     have hlt:¬ n'<b:=by omega
     refine ⟨by omega,by omega,by omega,by omega,by omega,?_,by omega,?_⟩
     ·simp only [List.length_cons,List.length_nil,maxStr_eq];omega
     have hz:n' / b≠0:=by
      have:=Nat.div_pos (show b≤n' by omega) (by omega);omega
     have h1:n' / b<b ^ f:=by
      rw [Nat.div_lt_iff_lt_mul (by omega)]
      rw [Nat.pow_succ] at hf
      exact hf
     have h2:0<f:=by
      rcases Nat.eq_zero_or_pos f with rfl | h
      ·simp at h1;omega
      ·exact h
     refine ih (n' / b) h1 h2 (by omega) (by omega) _ ?_ ?_
     ·simp only [List.length_append,List.length_cons,List.length_nil];omega
     ·rw [← hd]
      conv=>rhs;unfold ds
      rw [if_neg hlt,List.append_assoc]
    ·have hlt:n'<b:=by omega
     have e6:IntKind.u64.wrap ((n':Int)+1)=((n'+1:Nat):Int):=by rw [wr_u64 (by omega) (by omega)];omega
     unfold T35_2
     simp only [e6,toNat_cast,hexd_take (show n'<16 by omega) rfl,DIG_len]
     refine ⟨by omega,by omega,by omega,?_,?_⟩
     ·simp only [List.length_cons,List.length_nil,maxStr_eq];omega
     ·rw [← hd]
      unfold ds
      rw [if_pos hlt]
  refine key 64 n ?_ (by omega) hn (by omega) _ (by simp) ?_
  ·calc n<2 ^ 64:=hn
    _≤b ^ 64:=Nat.pow_le_pow_left hb 64
  ·simp [digs])
 exact h
theorem c15 {n:Int} (h1:-9223372036854775808≤n) (h2:n<9223372036854775808):Pus prog 15 [.i .i64 n] (.s (num n)):=by
 obtain ⟨x,rfl,h⟩:=p15 H.f15 (n0:=n) (K:=fun x=>x=num n) (by
  unfold T15_0
  refine ⟨fun h=>?_,fun h=>?_⟩
  ·have e:IntKind.u64.wrap (0-(IntKind.u64.wrap n))=(((-n).toNat:Nat):Int):=by rw [IntKind.wrap_u64,IntKind.wrap_u64];omega
   rw [e]
   refine ⟨_,c34 H (b:=10) (by omega) (by omega) (by omega),?_,?_⟩
   ·have:=ds_len 10 64 (-n).toNat
    simp only [digs,List.length_cons,List.length_nil,maxStr_eq];omega
   ·unfold num;rw [if_pos h];rfl
  ·have e:IntKind.u64.wrap n=((n.toNat:Nat):Int):=by rw [IntKind.wrap_u64];omega
   rw [e]
   refine ⟨_,c34 H (b:=10) (by omega) (by omega) (by omega),?_⟩
   unfold num;rw [if_neg h])
 exact h
theorem c16 {n:Int} (h1:-9223372036854775808≤n) (h2:n<9223372036854775808):Pus prog 16 [.i .i64 n] (.s (num n)):=by
 obtain ⟨x,rfl,h⟩:=p16 H.f16 (n0:=n) (K:=fun x=>x=num n) (by
  unfold T16_0
  refine ⟨fun h=>?_,fun h=>?_⟩
  ·have e:IntKind.u64.wrap n=((n.toNat:Nat):Int):=by rw [IntKind.wrap_u64];omega
   rw [e]
   refine ⟨_,c35 H (b:=10) (by omega) (by omega) (by omega),?_⟩
   unfold num;rw [if_neg (by omega)]
  ·have e:IntKind.u64.wrap ((IntKind.u64.wrap (IntKind.i64.wrap (0-(IntKind.i64.wrap (n+1)))))+1)=(((-n).toNat:Nat):Int):=by
    rw [wr_i64 (z:=n+1) (by omega) (by omega),wr_i64 (by omega) (by omega),wr_u64 (z:=0-(n+1)) (by omega) (by omega),wr_u64 (by omega) (by omega)];omega
   rw [e]
   refine ⟨_,c35 H (b:=10) (by omega) (by omega) (by omega),?_,?_⟩
   ·have:=ds_len 10 64 (-n).toNat
    simp only [digs,List.length_cons,List.length_nil,maxStr_eq];omega
   ·unfold num;rw [if_pos (by omega)];rfl)
 exact h
end
end Go.AM

/- Parts of the proof. -/
namespace Go.AM
open Go
def cutp (p s:Bytes):Bytes × Bool:=if s.take p.length=p then (s.drop p.length,true) else (s,false)
def EscK (s:Bytes) (c:Int) (r:Bytes) (ok:Bool):Prop:=match esc s with | some (x,y)=>c=(x.toNat:Int)∧r=y∧ok=true | none=>ok=false
theorem EscK.yes {s:Bytes} {x:UInt8} {y:Bytes} {c:Int} (h:esc s=some (x,y)) (hc:c=(x.toNat:Int)):EscK s c y true:=by
 unfold EscK;rw [h];exact ⟨hc,rfl,rfl⟩
theorem EscK.no {s:Bytes} {c:Int} {y:Bytes} (h:esc s=none):EscK s c y false:=by
 unfold EscK;rw [h]
section
variable {prog:Prog} (H:Has03 prog)
include H
theorem c46 (s p:Bytes):Pus prog 46 [.s s,.s p] (.b (decide (s.take p.length=p))):=by
 obtain ⟨x,rfl,h⟩:=p46 H.f46 (s0:=s) (prefix1:=p) (K:=fun x=>x=decide (s.take p.length=p)) (by
  unfold T46_0
  refine ⟨fun h=>⟨by omega,by omega,rfl⟩,fun h=>?_⟩
  refine (decide_eq_false fun h1=>?_).symm
  have:=congrArg List.length h1
  simp only [List.length_take] at this
  omega)
 exact h
theorem c42 (s p:Bytes):Pus prog 42 [.s s,.s p] (.tup [.s (cutp p s).1,.b (cutp p s).2]):=by
 obtain ⟨x,y,⟨rfl,rfl⟩,h⟩:=p42 H.f42 (s0:=s) (prefix1:=p) (K:=fun x y=>x=(cutp p s).1∧y=(cutp p s).2) (by
  unfold T42_0 cutp
  refine ⟨_,c46 H s p,fun h=>?_,fun h=>?_⟩
  ·have h1:¬ s.take p.length=p:=by simpa using h
   rw [if_neg h1];exact ⟨rfl,rfl⟩
  ·have h1:s.take p.length=p:=by simpa using h
   have h2:=congrArg List.length h1
   simp only [List.length_take] at h2
   rw [if_pos h1];exact ⟨by omega,by omega,rfl,rfl⟩)
 exact h
theorem c36 (s p:Bytes):Pus prog 36 [.s s,.s p] (.tup [.s (cutp p s).1,.b (cutp p s).2]):=by
 obtain ⟨x,y,⟨rfl,rfl⟩,h⟩:=p36 H.f36 (s0:=s) (prefix1:=p) (K:=fun x y=>x=(cutp p s).1∧y=(cutp p s).2) (by
  unfold T36_0
  exact ⟨_,_,c42 H s p,rfl,rfl⟩)
 exact h
theorem c47 (s:Bytes) (c:UInt8):Pus prog 47 [.s s,.i .u8 (c.toNat:Int)] (.i .i64 (Lib.indexByte s c)):=by
 obtain ⟨x,rfl,h⟩:=p47 H.f47 (s0:=s) (c1:=(c.toNat:Int)) (K:=fun x=>x=Lib.indexByte s c) (by
  unfold T47_0
  exact ⟨_,Pus.orac H.f48 (H.o48 s c) rfl,rfl⟩)
 exact h
theorem c43 (s:Bytes) (c:UInt8):Pus prog 43 [.s s,.i .u8 (c.toNat:Int)] (.i .i64 (Lib.indexByte s c)):=by
 obtain ⟨x,rfl,h⟩:=p43 H.f43 (s0:=s) (c1:=(c.toNat:Int)) (K:=fun x=>x=Lib.indexByte s c) (by
  unfold T43_0
  exact ⟨_,c47 H s c,rfl⟩)
 exact h
theorem c37 {b most:Nat} (hb:2≤b) (hb':b≤16) (hm:16≤most) (hm':most<18446744073709551616) {s:Bytes} (hs:s.length≤10000000):Pus prog 37 [.s s,.i .u64 (b:Int),.i .u64 (most:Int)] (.tup [.i .u64 ((rd b most s).1:Int),.i .i64 (rd b most s).2]):=by
 obtain ⟨x,y,⟨rfl,rfl⟩,h⟩:=p37 H.f37 (s0:=s) (base1:=(b:Int)) (most2:=(most:Int)) (K:=fun x y=>x=((rd b most s).1:Int)∧y=(rd b most s).2) (by
  unfold T37_0 T37_1 T37_2
  intro P hP
  have key :∀m i:Nat,i+m=s.length→okd b (s.take i)=true→(2≤i→s.head?≠some 48)→∀(n:Nat) (far:Bool),(far=false→n=vals b (s.take i)∧n≤most)→(far=true→most<vals b (s.take i))→P (n:Int) far (i:Int):=by
   intro m
   induction m with
   | zero=>
    intro i hi ho h48 n far h0 h1
    simp only [Nat.add_zero] at hi
    subst hi
    rw [List.take_length] at ho h0 h1
    apply hP
    unfold T37_3 T37_5
    refine ⟨fun h=>absurd h (by omega),fun _=>⟨fun h=>?_,fun h=>?_⟩⟩
    ·subst h;exact ⟨rfl,rfl⟩
    ·have hbad:badn b s=false:=by
      unfold badn
      rw [decide_eq_false h,ho]
      simp only [Bool.false_or,Bool.not_true]
      by_cases h2:1<s.length
      ·rw [decide_eq_false (h48 h2),Bool.and_false]
      ·rw [decide_eq_false h2,Bool.false_and]
     refine ⟨fun hf=>?_,fun hf=>?_⟩
     ·unfold rd
      rw [if_neg (by rw [hbad];decide),if_pos (h1 hf)]
      exact ⟨rfl,rfl⟩
     ·obtain ⟨h2,h3⟩:=h0 hf
      unfold rd
      rw [if_neg (by rw [hbad];decide),if_neg (by omega),h2]
      exact ⟨rfl,rfl⟩
   | succ m ih=>
    intro i hi ho h48 n far h0 h1
    have hil:i<s.length:=by omega
    have hd:=dv_lt hb' s[i]
    have hv:=vals_take (b:=b) hil
    have hk:=okd_take (b:=b) hil
    have bad12:badn b s=true→(0:Int)=((rd b most s).1:Int)∧(12:Int)=(rd b most s).2:=by
     intro h
     unfold rd
     rw [if_pos h]
     exact ⟨rfl,rfl⟩
    apply hP
    unfold T37_3 T37_4
    refine ⟨fun _=>⟨by omega,by rw [toNat_cast];exact hb',by omega,s[i],by rw [toNat_cast,List.getElem?_eq_getElem hil],dv b s[i],c43 H _ _,fun h=>?_,fun h=>?_⟩,fun h=>absurd h (by omega)⟩
    ·refine bad12 ?_
     unfold badn
     rw [okd_of hil h]
     simp
    ·have hd0:0≤dv b s[i]:=by omega
     rw [ho,decide_eq_true hd0,Bool.and_true] at hk
     generalize hdd:(dv b s[i]).toNat=d at hv
     have hdi:dv b s[i]=(d:Int):=by omega
     have e1:IntKind.u64.wrap (dv b s[i])=(d:Int):=by rw [hdi];exact wr_u64_nat (by omega)
     have e2:IntKind.u64.wrap ((most:Int)-(d:Int))=((most-d:Nat):Int):=by rw [wr_u64 (by omega) (by omega)];omega
     have e3:(((most-d:Nat):Int)).tdiv (b:Int)=(((most-d) / b:Nat):Int):=by rw [Int.tdiv_eq_ediv_of_nonneg (by omega)];omega
     have hq:(most-d) / b≤most-d:=Nat.div_le_self _ _
     have e4:IntKind.u64.wrap (((most-d) / b:Nat):Int)=(((most-d) / b:Nat):Int):=wr_u64_nat (by omega)
     have hfi:=far_iff (n:=n) (show 0<b by omega) (show d≤most by omega)
     rw [wr_succ (by omega)]
     simp only [e1,e2,e3,e4]
     have go:(2≤i+1→s.head?≠some 48)→(far=true→P (n:Int) true ((i+1:Nat):Int))∧(far=false→(b:Int)≠0∧(¬((n:Int)>(((most-d) / b:Nat):Int))→P (IntKind.u64.wrap ((IntKind.u64.wrap ((n:Int)*(b:Int)))+(d:Int))) (decide ((n:Int)>(((most-d) / b:Nat):Int))) ((i+1:Nat):Int))∧(¬(¬((n:Int)>(((most-d) / b:Nat):Int)))→P (n:Int) (decide ((n:Int)>(((most-d) / b:Nat):Int))) ((i+1:Nat):Int))):=by
      intro h2
      refine ⟨fun hf=>?_,fun hf=>⟨by omega,fun h3=>?_,fun h3=>?_⟩⟩
      ·refine ih (i+1) (by omega) hk h2 n true (fun h=>by cases h) fun _=>?_
       rw [hv]
       have h4:=h1 hf
       have:vals b (s.take i)≤vals b (s.take i)*b:=Nat.le_mul_of_pos_right _ (by omega)
       omega
      ·obtain ⟨h4,h5⟩:=h0 hf
       have h6:n*b+d≤most:=by
        have:¬ (most-d) / b<n:=by omega
        rw [hfi] at this
        omega
       have hnb:(n:Int)*(b:Int)=((n*b:Nat):Int):=by rw [Int.natCast_mul]
       have e5:IntKind.u64.wrap ((n:Int)*(b:Int))=((n*b:Nat):Int):=by rw [hnb];exact wr_u64_nat (by omega)
       have e6:IntKind.u64.wrap (((n*b:Nat):Int)+(d:Int))=((n*b+d:Nat):Int):=by rw [wr_u64 (by omega) (by omega)];omega
       rw [e5,e6,decide_eq_false h3]
       refine ih (i+1) (by omega) hk h2 _ false (fun _=>⟨?_,h6⟩) fun h=>by cases h
       rw [hv,h4]
      ·have h3':(n:Int)>(((most-d) / b:Nat):Int):=by omega
       obtain ⟨h4,h5⟩:=h0 hf
       rw [decide_eq_true h3']
       refine ih (i+1) (by omega) hk h2 n true (fun h=>by cases h) fun _=>?_
       rw [hv,← h4]
       exact hfi.1 (Int.ofNat_lt.1 h3')
     have hd0:s.head?=s[0]?:=List.head?_eq_getElem?
     refine ⟨fun hi1=>?_,fun hi1=>?_⟩
     ·have h0s:s[0]?=some s[0]:=List.getElem?_eq_getElem (by omega)
      refine ⟨s[0],h0s,fun h2=>?_,fun h2=>?_⟩
      ·refine bad12 ?_
       have h3:s[0]=48:=u8_eq (by have e:(48:UInt8).toNat=48:=rfl;omega)
       unfold badn
       rw [decide_eq_true (show 1<s.length by omega),decide_eq_true (show s.head?=some 48 by rw [hd0,h0s,h3])]
       simp
      ·refine go fun _=>?_
       rw [hd0,h0s]
       intro h3
       injection h3 with h3
       exact h2 (by rw [h3];rfl)
     ·refine go fun h2=>?_
      have h3:i≠1:=by omega
      have h4:i≠0:=by omega
      exact h48 (by omega)
  exact key s.length 0 (by omega) rfl (by omega) 0 false (fun _=>⟨rfl,by omega⟩) fun h=>by cases h)
 exact h
theorem c21 (s:Bytes):Pus prog 21 [.s s] (.tup [.i .i64 (unnum s).1,.i .i64 (unnum s).2]):=by
 obtain ⟨x,y,⟨rfl,rfl⟩,h⟩:=p21 H.f21 (s0:=s) (K:=fun x y=>x=(unnum s).1∧y=(unnum s).2) (by
  unfold T21_0 T21_1
  refine ⟨fun h=>by unfold unnum;rw [if_pos (by omega)];exact ⟨rfl,rfl⟩,fun hs=>⟨_,_,c36 H s [45],?_⟩⟩
  unfold unnum
  rw [if_neg (by omega)]
  by_cases hm:s.take 1=[45]
  ·have ec:cutp [45] s=(s.drop 1,true):=by unfold cutp;rw [if_pos (by exact hm)];rfl
   rw [ec,if_pos hm]
   refine ⟨fun h=>by simp at h,fun _=>?_⟩
   have hl:=rd_le 10 9223372036854775808 (s.drop 1)
   refine ⟨_,_,c37 H (b:=10) (most:=9223372036854775808) (by omega) (by omega) (by omega) (by omega) (s:=s.drop 1) (by simp;omega),fun h=>⟨fun h0=>?_,fun h0=>?_⟩,fun h=>?_⟩
   ·have e:(rd 10 9223372036854775808 (s.drop 1)).1=0:=by omega
    rw [if_pos ⟨h,e⟩,e]
    exact ⟨rfl,rfl⟩
   ·rw [if_neg (fun hh=>h0 (by rw [hh.2];rfl))]
    refine ⟨?_,rfl⟩
    rw [IntKind.wrap_u64,IntKind.wrap_i64]
    simp only
    omega
   ·have e:=rd_err h
    rw [if_neg (fun hh=>h hh.1),e]
    exact ⟨rfl,rfl⟩
  ·have ec:cutp [45] s=(s,false):=by unfold cutp;rw [if_neg (by exact hm)]
   rw [ec,if_neg hm]
   refine ⟨fun _=>?_,fun h=>by simp at h⟩
   have hl:=rd_le 10 9223372036854775807 s
   exact ⟨_,_,c37 H (b:=10) (most:=9223372036854775807) (by omega) (by omega) (by omega) (by omega) (s:=s) (by omega),wr_i64 (by omega) (by omega),rfl⟩)
 exact h
theorem c45 (s:Bytes) :∃c r ok,EscK s c r ok∧Pus prog 45 [.s s] (.tup [.i .u8 c,.s r,.b ok]):=by
 refine p45 H.f45 (s0:=s) (K:=EscK s) ?_
 unfold T45_0 T45_1
 refine ⟨fun h=>by subst h;exact EscK.no rfl,fun h=>?_⟩
 cases s with
 | nil=>exact absurd rfl h
 | cons c r=>
  have lit :∀{n:Nat} (_:n<256),(UInt8.ofNat n).toNat=n:=by intro n hn;simp;omega
  unfold T45_2
  refine ⟨c,rfl,?_⟩
  have t4:T45_4 prog (EscK (c::r)) (c::r) (c.toNat:Int) (decide (c.toNat=34∨c.toNat=92)):=by
   unfold T45_4
   refine ⟨fun h1=>⟨c,rfl,by simp,?_⟩,fun h1=>?_⟩
   ·have h1:=of_decide_eq_true h1
    exact EscK.yes (show (if c.toNat=34∨c.toNat=92 then some (c,r) else _)=some (c,r) from if_pos h1) rfl
   ·have h1:=of_decide_eq_false h1
    have e0:esc (c::r)=if c.toNat=110 then some (10,r) else if c.toNat=120 then esx r else none:=by
     show (if c.toNat=34∨c.toNat=92 then some (c,r) else if c.toNat=110 then some (10,r) else if c.toNat=120 then esx r else none)=_
     rw [if_neg h1]
    refine ⟨fun h2=>⟨by simp,?_⟩,fun h2=>⟨fun h3=>?_,fun h3=>?_⟩⟩
    ·exact EscK.yes (by rw [e0,if_pos (by omega)];rfl) rfl
    ·have e:esc (c::r)=esx r:=by rw [e0,if_neg (by omega),if_pos (by omega)]
     refine ⟨fun h4=>?_,fun h4=>?_⟩
     ·refine EscK.no ?_
      rw [e]
      match r,h4 with
      | [],_=>rfl
      | [a],_=>rfl
      | a::b::r',h4=>simp at h4;omega
     ·match r,h4,e with
      | [],h4,_=>exact absurd (by simp) h4
      | [a],h4,_=>exact absurd (by simp) h4
      | a::b::r',_,e=>
       have la:=dv_lt (b:=16) (by omega) a
       have lb:=dv_lt (b:=16) (by omega) b
       have ca:Pus prog 43 [.s DIG,.i .u8 (a.toNat:Int)] (.i .i64 (dv 16 a)):=c43 H DIG a
       have cb:Pus prog 43 [.s DIG,.i .u8 (b.toNat:Int)] (.i .i64 (dv 16 b)):=c43 H DIG b
       refine ⟨a,rfl,_,ca,b,rfl,_,cb,by simp,?_⟩
       simp only [esx] at e
       by_cases hv:0≤dv 16 a∧0≤dv 16 b
       ·have hw:IntKind.u8.wrap (IntKind.i64.wrap ((IntKind.i64.wrap (16*dv 16 a))+dv 16 b))=16*dv 16 a+dv 16 b:=by
         rw [wr_i64 (z:=16*dv 16 a) (by omega) (by omega),wr_i64 (by omega) (by omega),wr_u8 (by omega) (by omega)]
        have en:=lit (n:=(16*dv 16 a+dv 16 b).toNat) (by omega)
        rw [hw]
        refine ⟨fun _=>⟨fun _=>⟨fun h5=>⟨fun h6=>?_,fun h6=>?_⟩,fun h5=>?_⟩,fun h5=>absurd hv.2 h5⟩,fun h5=>absurd hv.1 h5⟩
        ·rw [if_pos ⟨hv.1,hv.2,by omega,by omega⟩] at e
         exact EscK.yes e (by rw [en];omega)
        ·by_cases h7:126<16*dv 16 a+dv 16 b
         ·rw [if_pos ⟨hv.1,hv.2,by omega,by omega⟩] at e
          rw [decide_eq_true h7]
          exact EscK.yes e (by rw [en];omega)
         ·rw [if_neg (by omega)] at e
          rw [decide_eq_false h7]
          exact EscK.no e
        ·rw [if_neg (by omega)] at e
         exact EscK.no e
       ·rw [if_neg (by omega)] at e
        exact ⟨fun h5=>⟨fun h6=>absurd ⟨h5,h6⟩ hv,fun _=>EscK.no e⟩,fun _=>EscK.no e⟩
    ·exact EscK.no (by rw [e0,if_neg (by omega),if_neg (by omega)])
  unfold T45_3
  refine ⟨fun h1=>?_,fun h1=>?_⟩
  ·rw [show decide ((c.toNat:Int)=34)=decide (c.toNat=34∨c.toNat=92) from decide_eq_decide.2 (by omega)]
   exact t4
  ·rw [show decide ((c.toNat:Int)=92)=decide (c.toNat=34∨c.toNat=92) from decide_eq_decide.2 (by omega)]
   exact t4
theorem c39 {s:Bytes} (hs:s.length≤10000000):Pus prog 39 [.s s] (.tup [.s (nxtR s).1,.s (nxtR s).2.1,.b (nxtR s).2.2]):=by
 obtain ⟨x,y,z,⟨rfl,rfl,rfl⟩,h⟩:=p39 H.f39 (s0:=s) (K:=fun x y z=>x=(nxtR s).1∧y=(nxtR s).2.1∧z=(nxtR s).2.2) (by
  have no:nxt s=none→([]:Bytes)=(nxtR s).1∧([]:Bytes)=(nxtR s).2.1∧false=(nxtR s).2.2:=by
   intro h
   unfold nxtR
   rw [h]
   exact ⟨rfl,rfl,rfl⟩
  unfold T39_0 T39_1
  refine ⟨_,_,c36 H s [34],?_⟩
  cases s with
  | nil=>
   rw [show cutp [34] []=([],false) from rfl]
   exact ⟨fun _=>no rfl,fun h=>by simp at h⟩
  | cons q s=>
   by_cases hq:q.toNat=34
   ·have hq':q=34:=u8_eq hq
    subst hq'
    have ec:cutp [34] (34::s)=(s,true):=by unfold cutp;rw [if_pos (show List.take ([34]:Bytes).length (34::s)=[34] from rfl)];rfl
    rw [ec]
    refine ⟨fun h=>by simp at h,fun _ P hP=>?_⟩
    have hn:nxt (34::s)=nxtB (s.length+1) [] s:=by
     simp only [nxt]
     rw [if_pos hq]
    have key :∀n b r,r.length<n→b.length+r.length≤10000000→nxtB n b r=nxt (34::s)→P r b:=by
     intro n
     induction n with
     | zero=>intro b r h;exact absurd h (Nat.not_lt_zero _)
     | succ n ih=>
      intro b r hr hb hx
      apply hP
      unfold T39_2
      cases r with
      | nil=>exact ⟨fun h=>absurd rfl h,fun _=>no (by rw [← hx];rfl)⟩
      | cons c r=>
       simp only [nxtB] at hx
       refine ⟨fun _=>⟨c,rfl,by simp,fun h1=>?_,fun h1=>⟨fun h2=>?_,fun h2=>⟨fun h3=>?_,fun h3=>⟨fun h4=>?_,fun h4=>?_⟩⟩⟩⟩,fun h=>absurd (by simp) h⟩
       ·rw [if_pos (by omega)] at hx
        unfold nxtR
        rw [← hx]
        exact ⟨rfl,rfl,rfl⟩
       ·refine no ?_
        rw [← hx,if_neg (by omega),show one (c::r)=none by simp only [one];rw [if_pos (by omega)]]
       ·refine no ?_
        rw [← hx,if_neg (by omega),show one (c::r)=none by simp only [one];rw [if_pos (by omega)]]
       ·rw [if_neg (by omega),show one (c::r)=esc r by simp only [one];rw [if_neg (by omega),if_pos (by omega)]] at hx
        obtain ⟨a,r',ok,hk,hp⟩:=c45 H r
        refine ⟨a,r',ok,hp,fun h5=>?_,fun h5=>?_⟩
        ·unfold EscK at hk
         cases he:esc r with
         | none=>rw [he] at hx;exact no hx.symm
         | some p=>
          rw [he] at hk
          obtain ⟨_,_,hk⟩:=hk
          rw [hk] at h5
          exact absurd h5 (by decide)
        ·unfold EscK at hk
         cases he:esc r with
         | none=>
          rw [he] at hk
          simp only at hk
          rw [hk] at h5
          exact absurd h5 (by decide)
         | some p=>
          obtain ⟨u,v⟩:=p
          rw [he] at hk hx
          obtain ⟨h6,h7,h8⟩:=hk
          simp only at hx h6 h7
          subst h6;subst h7
          have hl:r'.length<(c::r).length:=one_len (c:=u) (by simp only [one];rw [if_neg (by omega),if_pos (by omega)];exact he)
          simp only [List.length_cons] at hl hb hr
          unfold T39_3
          refine ⟨u,rfl,⟨?_,?_⟩,ih _ _ (by omega) ?_ hx⟩
          ·simp only [List.length_cons,List.length_nil,maxBytes_eq];omega
          ·simp only [List.length_cons,List.length_nil,maxBytes_eq];omega
          ·simp only [List.length_append,List.length_cons,List.length_nil];omega
       ·rw [if_neg (by omega),show one (c::r)=some (c,r) by simp only [one];rw [if_neg (by omega),if_neg (by omega)]] at hx
        simp only [List.length_cons] at hb hr
        unfold T39_3
        refine ⟨c,rfl,⟨?_,?_⟩,ih _ _ (show r.length<n by omega) ?_ hx⟩
        ·simp only [List.length_cons,List.length_nil,maxBytes_eq];omega
        ·simp only [List.length_cons,List.length_nil,maxBytes_eq];omega
        ·simp only [List.drop_succ_cons,List.drop_zero,List.length_append,List.length_cons,List.length_nil];omega
    exact key (s.length+1) [] s (by omega) (by simp at hs ⊢;omega) hn.symm
   ·have ec:cutp [34] (q::s)=(q::s,false):=by
     unfold cutp
     rw [if_neg ?_]
     intro h
     injection h with h
     exact hq (by rw [h];rfl)
    rw [ec]
    refine ⟨fun _=>no ?_,fun h=>by simp at h⟩
    simp only [nxt]
    rw [if_neg hq])
 exact h
theorem c25 (s:Bytes):Pus prog 25 [.s s] (.tup [.s (unquo s).1,.i .i64 (unquo s).2]):=by
 obtain ⟨x,y,⟨rfl,rfl⟩,h⟩:=p25 H.f25 (s0:=s) (K:=fun x y=>x=(unquo s).1∧y=(unquo s).2) (by
  unfold T25_0 unquo
  refine ⟨fun h=>by rw [if_pos (by omega)];exact ⟨rfl,rfl⟩,fun hs=>⟨_,_,_,c39 H (by omega),?_⟩⟩
  rw [if_neg (by omega)]
  unfold nxtR
  cases nxt s with
  | none=>exact ⟨fun _=>⟨rfl,rfl⟩,fun h=>by simp at h⟩
  | some p=>
   obtain ⟨x,r⟩:=p
   refine ⟨fun h=>by simp at h,fun _=>⟨fun h=>?_,fun h=>?_⟩⟩
   ·cases r with
    | nil=>exact absurd rfl h
    | cons c r=>exact ⟨rfl,rfl⟩
   ·have h:r=[]:=Classical.not_not.1 h
    subst h
    refine ⟨fun h=>?_,fun h=>?_⟩
    ·simp only at h ⊢
     rw [if_pos (by omega)];exact ⟨rfl,rfl⟩
    ·simp only at h ⊢
     rw [if_neg (by omega)];exact ⟨rfl,rfl⟩)
 exact h
theorem c29 {a b:List Bytes} (ha:a.length≤1000000000):Pus prog 29 [.sl .ext (a.map rowS),.sl .ext (b.map rowS)] (.b (decide (a=b))):=by
 obtain ⟨x,rfl,h⟩:=p29 H.f29 (a0:=a) (b1:=b) (K:=fun x=>x=decide (a=b)) (by
  unfold T29_0
  refine ⟨fun h=>(decide_eq_false fun e=>h (by rw [e])).symm,fun hl P hP=>?_⟩
  have hlen:a.length=b.length:=by omega
  have key :∀m i:Nat,i+m=a.length→(∀j,j<i→a[j]?=b[j]?)→P (i:Int):=by
   intro m
   induction m with
   | zero=>
    intro i hi hj
    apply hP
    unfold T29_1 T29_2
    refine ⟨fun h=>absurd h (by omega),fun _=>(decide_eq_true ?_).symm⟩
    apply List.ext_getElem?
    intro j
    rcases Nat.lt_or_ge j i with h | h
    ·exact hj j h
    ·rw [List.getElem?_eq_none (by omega),List.getElem?_eq_none (by omega)]
   | succ m ih=>
    intro i hi hj
    have h1:i<a.length:=by omega
    have h2:i<b.length:=by omega
    apply hP
    unfold T29_1
    refine ⟨fun _=>⟨by omega,a[i],by rw [toNat_cast,List.getElem?_eq_getElem h1],by omega,b[i],by rw [toNat_cast,List.getElem?_eq_getElem h2],fun h=>?_,fun h=>?_⟩,fun h=>absurd h (by omega)⟩
    ·refine (decide_eq_false fun e=>h ?_).symm
     subst e
     rfl
    ·rw [wr_succ (by omega)]
     refine ih (i+1) (by omega) fun j hj'=>?_
     rcases Nat.lt_or_ge j i with h3 | h3
     ·exact hj j h3
     ·have:j=i:=by omega
      subst this
      rw [List.getElem?_eq_getElem h1,List.getElem?_eq_getElem h2,Classical.not_not.1 h]
  exact key a.length 0 (by omega) (by simp))
 exact h
end
end Go.AM

/- Parts of the proof. -/
namespace Go.AM
open Go
theorem unnum_rng (s:Bytes):-9223372036854775808≤(unnum s).1∧(unnum s).1<9223372036854775808:=by
 have h1:=rd_le 10 9223372036854775808 (s.drop 1)
 have h2:=rd_le 10 9223372036854775807 s
 unfold unnum
 split
 ·exact ⟨by decide,by decide⟩
 split
 ·split
  ·exact ⟨by decide,by decide⟩
  ·dsimp only
   omega
 ·dsimp only
  omega
end Go.AM

/- Parts of the proof. -/
namespace Go.AM
open Go
def eqQ (a b:Qry):Bool:=(a.kind==b.kind&&(a.g==b.g&&(a.k==b.k&&(a.key==b.key&&(a.name==b.name&&true)))))
theorem eqQ_iff {a b:Qry}:eqQ a b=true↔a=b:=by
 unfold eqQ
 simp only [Bool.and_eq_true,beq_iff_eq,Bool.and_true]
 constructor
 ·rintro ⟨h1,h2,h3,h4,h5⟩
  cases a;cases b
  simp only [Qry.mk.injEq]
  exact ⟨h1,h2,h3,h4,h5⟩
 ·rintro rfl;exact ⟨rfl,rfl,rfl,rfl,rfl⟩
def bareQ (q:Qry):Qry:=if q.kind=1 then ⟨q.kind,0,0,0,[]⟩ else if q.kind=3 then ⟨q.kind,q.g,q.k,0,[]⟩ else if q.kind=2∨q.kind=4∨q.kind=5 then ⟨q.kind,q.g,0,0,[]⟩ else if q.kind=6 then ⟨q.kind,0,0,q.key,[]⟩ else ⟨q.kind,0,0,0,q.name⟩
def rngQ (q:Qry):Bool:=decide (0≤q.g∧q.g<16)&&decide (0≤q.k∧q.k<170)&&decide (q.name.length≤16)
def okQ (q:Qry):Bool:=decide (1≤q.kind∧q.kind≤8)&&eqQ q (bareQ q)&&rngQ q
def chkQ (q:Qry):Int:=if okQ q=true then 0 else 8
theorem chkQ_iff {q:Qry}:chkQ q=0↔okQ q=true:=by unfold chkQ;cases okQ q<;>decide
def shownQ (q:Qry):Bytes:=if q.kind=1 then wordM q.kind else if q.kind=3 then wordM q.kind++(([32]++num q.g++[32])++num q.k) else if q.kind=6 then wordM q.kind++([32]++num q.key) else if q.kind=7∨q.kind=8 then wordM q.kind++([32]++quo q.name) else wordM q.kind++([32]++num q.g)
def txtQ (q:Qry):Bytes × Int:=if okQ q=true then (shownQ q,0) else ([],8)
structure OkQ (q:Qry):Prop where
 k1:1≤q.kind
 k8:q.kind≤8
 b:q=bareQ q
 g:0≤q.g∧q.g<16
 k:0≤q.k∧q.k<170
 n:q.name.length≤16
theorem okQ_iff {q:Qry}:okQ q=true↔OkQ q:=by
 unfold okQ rngQ
 simp only [Bool.and_eq_true,decide_eq_true_eq,eqQ_iff]
 exact ⟨fun ⟨⟨⟨h1,h2⟩,h3⟩,⟨h4,h5⟩,h6⟩=>⟨h1,h2,h3,h4,h5,h6⟩,fun h=>⟨⟨⟨h.k1,h.k8⟩,h.b⟩,⟨h.g,h.k⟩,h.n⟩⟩
def cutS (s:Bytes):Bytes × Bytes × Bool:=if 0≤Lib.indexByte s 32 then (s.take (Lib.indexByte s 32).toNat,s.drop (Lib.indexByte s 32+1).toNat,true) else (s,[],false)
theorem word_len {k:Int}:(wordM k).length≤10:=by
 by_cases h:1≤k∧k≤8
 ·obtain ⟨h1,h8⟩:=h
  obtain ⟨j,rfl⟩:=Int.eq_ofNat_of_zero_le (by omega:0≤k)
  have h1:1≤j:=by omega
  have h8:j≤8:=by omega
  match j,h1,h8 with
  | 1,_,_ | 2,_,_ | 3,_,_ | 4,_,_ | 5,_,_ | 6,_,_ | 7,_,_ | 8,_,_=>decide
 ·rw [wordM_no h];decide
def numQ (s:Bytes):Int × Bool:=((unnum s).1,decide ((unnum s).2=0)&&(decide (0≤(unnum s).1)&&decide ((unnum s).1<1000)))
def rdQ (kind:Int) (rest:Bytes):Qry × Bool:=
 if kind=1 then (⟨1,0,0,0,[]⟩,decide (rest=[])) else
 if kind=3 then (⟨3,(numQ (cutS rest).1).1,(numQ (cutS rest).2.1).1,0,[]⟩,(numQ (cutS rest).1).2&&((numQ (cutS rest).2.1).2&&(cutS rest).2.2)) else
 if kind=6 then (⟨6,0,0,(unnum rest).1,[]⟩,decide ((unnum rest).2=0)) else
 if kind=7∨kind=8 then (⟨kind,0,0,0,(unquo rest).1⟩,decide ((unquo rest).2=0)) else (⟨kind,(numQ rest).1,0,0,[]⟩,(numQ rest).2)
abbrev qz:Qry:=⟨0,0,0,0,[]⟩
def gotQ (s:Bytes):Qry × Bool:=rdQ (mpAt wordL (cutS s).1) (cutS s).2.1
def rdTQ (s:Bytes):Qry × Int:=if 2000<s.length then (qz,4) else if (gotQ s).2=true∧okQ (gotQ s).1=true∧shownQ (gotQ s).1=s then ((gotQ s).1,0) else (qz,12)
theorem gotQ_key (s:Bytes):-9223372036854775808≤(gotQ s).1.key∧(gotQ s).1.key<9223372036854775808:=by
 have:=unnum_rng (cutS s).2.1
 unfold gotQ rdQ
 repeat' split
 all_goals (simp only;omega)
end Go.AM

/- Parts of the proof. -/
namespace Go.AM
open Go
structure HasU (prog:Prog):Prop extends Has03 prog where
 f197:prog.fn 197=some pf197
 f243:prog.fn 243=some pf243
 f245:prog.fn 245=some pf245
 f247:prog.fn 247=some pf247
 f257:prog.fn 257=none
 f258:prog.fn 258=some pf258
 f260:prog.fn 260=some pf260
 f261:prog.fn 261=some pf261
 f266:prog.fn 266=some pf266
 f267:prog.fn 267=some pf267
 o257:prog.orac 257 []=some (.mp wordL)
theorem ib_le (s:Bytes) (c:UInt8):Lib.indexByte s c<(s.length:Int)∨s=[]:=by
 induction s with
 | nil=>exact .inr rfl
 | cons b s ih=>
  left
  rw [Lib.indexByte]
  have:(((b::s).length:Nat):Int)=(s.length:Int)+1:=by rw [List.length_cons];omega
  split
  ·omega
  ·split
   ·omega
   ·rename_i h1 h2
    rcases ih with h | h
    ·omega
    ·subst h;exact absurd rfl h2
section
variable {prog:Prog} (H:HasU prog)
include H
theorem c257:Pus prog 257 [] (.mp wordL):=⟨.mp wordL,⟨st0,1,by simp only [acall,H.f257,H.o257]⟩,by simp [AV.strip]⟩
theorem c258 {n:Int} (h1:-9223372036854775808≤n) (h2:n<9223372036854775808):Pus prog 258 [.i .i64 n] (.s (num n)):=by
 obtain ⟨x,rfl,h⟩:=p258 H.f258 (n0:=n) (K:=fun x=>x=num n) (by
  unfold T258_0
  exact ⟨_,c15 H.toHas03 h1 h2,rfl⟩)
 exact h
theorem c197 (s:Bytes) (c:UInt8):Pus prog 197 [.s s,.s [c]] (.i .i64 (Lib.indexByte s c)):=by
 obtain ⟨x,rfl,h⟩:=p197 H.f197 (s0:=s) (substr1:=[c]) (K:=fun x=>x=Lib.indexByte s c) (by
  have t3 :∀b,(b=true→s=[c])→T197_3 prog (fun x=>x=Lib.indexByte s c) s [c] (([c]:Bytes).length:Int) b:=fun b hb=>by
   unfold T197_3
   refine ⟨fun h=>?_,fun _=>⟨fun _=>⟨c,rfl,_,c47 H.toHas03 s c,rfl⟩,fun h=>absurd rfl h⟩⟩
   rw [hb h,Lib.indexByte,if_pos (by simp)]
  unfold T197_0 T197_1 T197_2
  exact ⟨fun h=>absurd h (by simp),fun _=>t3 _ fun h=>(of_decide_eq_true h).symm⟩)
 exact h
theorem c266 {s:Bytes} (hs:s.length≤1000000000):Pus prog 266 [.s s,.s [32]] (.tup [.s (cutS s).1,.s (cutS s).2.1,.b (cutS s).2.2]):=by
 obtain ⟨x,y,z,⟨rfl,rfl,rfl⟩,h⟩:=p266 H.f266 (s0:=s) (sep1:=[32]) (K:=fun x y z=>x=(cutS s).1∧y=(cutS s).2.1∧z=(cutS s).2.2) (by
  have hl:=ib_le s 32
  have hg:=Lib.indexByte_ge s 32
  unfold T266_0
  refine ⟨_,c197 H s 32,fun h=>?_,fun h=>?_⟩
  ·have hlt:Lib.indexByte s 32<(s.length:Int):=by
    rcases hl with h' | rfl
    ·exact h'
    ·exact absurd h (by decide)
   have e1:(([32]:Bytes).length:Int)=1:=rfl
   rw [e1,wr_i64 (by omega) (by omega)]
   unfold cutS
   rw [if_pos (by omega)]
   exact ⟨by omega,by omega,by omega,by omega,rfl,rfl,rfl⟩
  ·unfold cutS
   rw [if_neg (by omega)]
   exact ⟨rfl,rfl,rfl⟩)
 exact h
theorem c260 {s:Bytes} (hs:s.length≤1000000000):Pus prog 260 [.s s,.s [32]] (.tup [.s (cutS s).1,.s (cutS s).2.1,.b (cutS s).2.2]):=by
 obtain ⟨x,y,z,⟨rfl,rfl,rfl⟩,h⟩:=p260 H.f260 (s0:=s) (sep1:=[32]) (K:=fun x y z=>x=(cutS s).1∧y=(cutS s).2.1∧z=(cutS s).2.2) (by
  unfold T260_0
  exact ⟨_,_,_,c266 H hs,rfl,rfl,rfl⟩)
 exact h
theorem c267 (s:Bytes):Pus prog 267 [.s s] (.tup [.i .i64 (numQ s).1,.b (numQ s).2]):=by
 obtain ⟨x,y,⟨rfl,rfl⟩,h⟩:=p267 H.f267 (s0:=s) (K:=fun x y=>x=(numQ s).1∧y=(numQ s).2) (by
  unfold T267_0 numQ
  refine ⟨_,_,c21 H.toHas03 s,fun h=>⟨fun h1=>⟨rfl,?_⟩,fun h1=>⟨rfl,?_⟩⟩,fun h=>⟨rfl,?_⟩⟩
  ·rw [decide_eq_true h,decide_eq_true (p:=0≤(unnum s).1) (by omega)];rfl
  ·rw [decide_eq_true h,decide_eq_false (p:=0≤(unnum s).1) (by omega)];rfl
  ·rw [decide_eq_false h];rfl)
 exact h
theorem c261 {kind:Int} {rest:Bytes} (hr:rest.length≤1000000000):Pus prog 261 [.i .u8 kind,.s rest] (.tup [(rdQ kind rest).1.av,.b (rdQ kind rest).2]):=by
 obtain ⟨x,y,⟨rfl,rfl⟩,h⟩:=p261 H.f261 (kind0:=kind) (rest1:=rest) (K:=fun x y=>x=(rdQ kind rest).1∧y=(rdQ kind rest).2) (by
  have t7 :∀(K:Qry→Bool→Prop) (ok is:Bool) (e:Int) (m q:Qry),K q (ok&&(is&&decide (e=0)))→T261_7 prog K ok is e m q:=fun K ok is e m q hk=>by
   unfold T261_7
   refine ⟨fun h=>⟨fun h'=>?_,fun h'=>?_⟩,fun h=>?_⟩
   ·rw [h,h'] at hk;exact hk
   ·rw [h,h'] at hk;exact hk
   ·rw [h] at hk;exact hk
  unfold T261_0 T261_1 T261_2 T261_3 T261_4 T261_5 T261_6
  refine ⟨fun h=>?_,fun h1=>⟨fun h=>?_,fun h3=>⟨fun h=>?_,fun h6=>⟨fun h=>?_,fun h7=>?_⟩⟩⟩⟩
  ·have h:=of_decide_eq_true h
   refine t7 _ _ _ _ _ _ ?_
   unfold rdQ
   rw [if_pos h,h]
   exact ⟨rfl,by simp⟩
  ·have h1:=of_decide_eq_false h1
   have hc1:(cutS rest).1.length≤1000000000:=by unfold cutS;split<;>simp<;>omega
   refine ⟨_,_,_,c260 H hr,_,_,c267 H _,_,_,c267 H _,fun hi=>t7 _ _ _ _ _ _ ?_,fun hi=>t7 _ _ _ _ _ _ ?_⟩
   ·unfold rdQ
    rw [if_neg h1,if_pos h,h,hi]
    exact ⟨rfl,by simp⟩
   ·unfold rdQ
    rw [if_neg h1,if_pos h,h,hi]
    exact ⟨rfl,by simp⟩
  ·have h1:=of_decide_eq_false h1
   refine ⟨_,_,c21 H.toHas03 rest,t7 _ _ _ _ _ _ ?_⟩
   unfold rdQ
   rw [if_neg h1,if_neg h3,if_pos h,h]
   exact ⟨rfl,by simp⟩
  ·have h1:=of_decide_eq_false h1
   unfold T261_8
   refine ⟨fun _=>⟨_,_,c25 H.toHas03 rest,t7 _ _ _ _ _ _ ?_⟩,fun h'=>absurd h (of_decide_eq_false h')⟩
   unfold rdQ
   rw [if_neg h1,if_neg h3,if_neg h6,if_pos (.inl h)]
   exact ⟨rfl,by simp⟩
  ·have h1:=of_decide_eq_false h1
   unfold T261_8
   refine ⟨fun h=>⟨_,_,c25 H.toHas03 rest,t7 _ _ _ _ _ _ ?_⟩,fun h=>⟨_,_,c267 H rest,t7 _ _ _ _ _ _ ?_⟩⟩
   ·have h:=of_decide_eq_true h
    unfold rdQ
    rw [if_neg h1,if_neg h3,if_neg h6,if_pos (.inr h)]
    exact ⟨rfl,by simp⟩
   ·have h:=of_decide_eq_false h
    unfold rdQ
    rw [if_neg h1,if_neg h3,if_neg h6,if_neg (by omega)]
    exact ⟨rfl,by simp⟩)
 exact h
theorem fin_chk {q b:Qry} {K:Int→Prop} (hb:bareQ q=b) (hk:1≤q.kind∧q.kind≤8) (h:K (chkQ q)) :
  ((!(eqQ q b))=true→K 8)∧((!(eqQ q b))=false→(q.g<0→K 8)∧(¬(q.g<0)→(q.g≥16→K 8)∧(¬(q.g≥16)→(q.k<0→K 8)∧(¬(q.k<0)→(q.k≥170→K 8)∧(¬(q.k≥170)→((q.name.length:Int)>16→K 8)∧(¬((q.name.length:Int)>16)→K 0)))))):=by
 have e:okQ q=(eqQ q b&&rngQ q):=by unfold okQ;rw [decide_eq_true hk,hb];rfl
 have no:okQ q=false→K 8:=fun h'=>by unfold chkQ at h;rw [h'] at h;exact h
 refine ⟨fun h1=>no ?_,fun h1=>?_⟩
 ·rw [e,show eqQ q b=false by simpa using h1];rfl
 have h1:eqQ q b=true:=by simpa using h1
 rw [h1,Bool.true_and] at e
 unfold rngQ at e
 refine ⟨fun h2=>no ?_,fun h2=>⟨fun h3=>no ?_,fun h3=>⟨fun h4=>no ?_,fun h4=>⟨fun h5=>no ?_,fun h5=>⟨fun h6=>no ?_,fun h6=>?_⟩⟩⟩⟩⟩
 ·rw [e,decide_eq_false (by omega)];rfl
 ·rw [e,decide_eq_false (by omega)];rfl
 ·rw [e,decide_eq_false (p:=0≤q.k∧_) (by omega)];simp
 ·rw [e,decide_eq_false (p:=0≤q.k∧_) (by omega)];simp
 ·rw [e,decide_eq_false (p:=q.name.length≤16) (by omega)];simp
 ·rw [decide_eq_true (by omega),decide_eq_true (by omega),decide_eq_true (by omega)] at e
  unfold chkQ at h
  rw [e] at h
  exact h
end
end Go.AM

/- Parts of the proof. -/
namespace Go.AM
open Go
theorem bare_1 {q:Qry} (h:q.kind=1):bareQ q=⟨q.kind,0,0,0,[]⟩:=by unfold bareQ;rw [if_pos h]
theorem bare_3 {q:Qry} (h:q.kind=3):bareQ q=⟨q.kind,q.g,q.k,0,[]⟩:=by unfold bareQ;rw [if_neg (by omega),if_pos h]
theorem bare_g {q:Qry} (h:q.kind=2∨q.kind=4∨q.kind=5):bareQ q=⟨q.kind,q.g,0,0,[]⟩:=by unfold bareQ;rw [if_neg (by omega),if_neg (by omega),if_pos h]
theorem bare_6 {q:Qry} (h:q.kind=6):bareQ q=⟨q.kind,0,0,q.key,[]⟩:=by unfold bareQ;rw [if_neg (by omega),if_neg (by omega),if_neg (by omega),if_pos h]
theorem bare_n {q:Qry} (h:q.kind=7∨q.kind=8):bareQ q=⟨q.kind,0,0,0,q.name⟩:=by unfold bareQ;rw [if_neg (by omega),if_neg (by omega),if_neg (by omega),if_neg (by omega)]
theorem chk_no {q:Qry} (h:¬(1≤q.kind∧q.kind≤8)):chkQ q=8:=by unfold chkQ okQ;rw [decide_eq_false h];rfl
section
variable {prog:Prog} (H:HasU prog)
include H
theorem c247 (q:Qry):Pus prog 247 [q.av] (.i .i64 (chkQ q)):=by
 obtain ⟨x,rfl,h⟩:=p247 H.f247 (q0:=q) (K:=fun x=>x=chkQ q) (by
  have fin :∀b,bareQ q=b→1≤q.kind∧q.kind≤8→T247_3 prog (fun x=>x=chkQ q) q b:=fun b hb hk=>by
   unfold T247_3
   exact fin_chk H (K:=fun x=>x=chkQ q) hb hk rfl
  have t4 :∀t,(t=true↔q.kind=2∨q.kind=4∨q.kind=5)→q.kind≠1→q.kind≠3→T247_4 prog (fun x=>x=chkQ q) q.kind t q ⟨q.kind,0,0,0,[]⟩:=fun t ht h1 h3=>by
   unfold T247_4 T247_5
   refine ⟨fun h=>fin _ (bare_g (ht.1 h)) (by have:=ht.1 h;omega),fun h=>?_⟩
   have hg:¬(q.kind=2∨q.kind=4∨q.kind=5):=fun h'=>by rw [ht.2 h'] at h;cases h
   refine ⟨fun h6=>fin _ (bare_6 h6) (by omega),fun h6=>⟨fun h7=>⟨fun _=>fin _ (bare_n (.inl h7)) (by omega),fun h'=>absurd h7 (of_decide_eq_false h')⟩,fun h7=>⟨fun h'=>fin _ (bare_n (.inr (of_decide_eq_true h'))) (by have:=of_decide_eq_true h';omega),fun h'=>?_⟩⟩⟩
   have h8:=of_decide_eq_false h'
   exact (chk_no (by omega)).symm
  unfold T247_0 T247_1 T247_2
  refine ⟨fun h=>fin _ (bare_1 h) (by omega),fun h1=>⟨fun h=>fin _ (bare_3 h) (by omega),fun h3=>⟨fun h=>t4 _ (by rw [decide_eq_true_eq];omega) h1 h3,fun h2=>⟨fun h=>t4 _ (by rw [decide_eq_true_eq];omega) h1 h3,fun h4=>t4 _ (by rw [decide_eq_true_eq];omega) h1 h3⟩⟩⟩⟩)
 exact h
theorem c243 {q:Qry} (hk:-9223372036854775808≤q.key∧q.key<9223372036854775808):Pus prog 243 [q.av] (.tup [.s (txtQ q).1,.i .i64 (txtQ q).2]):=by
 obtain ⟨x,y,⟨rfl,rfl⟩,h⟩:=p243 H.f243 (q0:=q) (K:=fun x y=>x=(txtQ q).1∧y=(txtQ q).2) (by
  unfold T243_0 T243_1
  refine ⟨_,c247 H q,fun h=>?_,fun h=>?_⟩
  ·have h':¬okQ q=true:=fun e=>h (chkQ_iff.2 e)
   unfold txtQ chkQ
   rw [if_neg h',if_neg h']
   exact ⟨rfl,rfl⟩
  have ho:okQ q=true:=chkQ_iff.1 (Decidable.not_not.1 h)
  have et:txtQ q=(shownQ q,0):=by unfold txtQ;rw [if_pos ho]
  rw [et]
  obtain ⟨k1,k8,_,hg,hk',hn⟩:=okQ_iff.1 ho
  have l1:=word_len (k:=q.kind)
  have l2:=num_len q.g
  have l3:=num_len q.k
  have l4:=num_len q.key
  have l5:=quo_len q.name
  have t4 :∀t,q.kind≠1→q.kind≠3→q.kind≠6→(t=true↔q.kind=7∨q.kind=8)→T243_4 prog (fun x y=>x=shownQ q∧y=0) (wordM q.kind) t q:=fun t h1 h3 h6 ht=>by
   unfold T243_4 T243_3
   have eq:quoR q.name=(quo q.name,0):=by unfold quoR;rw [if_neg (by omega)]
   refine ⟨fun h=>⟨_,_,c11 H.toHas03 q.name,fun h'=>?_,fun _=>⟨?_,?_,?_,rfl⟩⟩,fun h=>⟨_,c258 H (by omega) (by omega),?_,?_,?_,rfl⟩⟩
   case refine_1=>rw [eq] at h';exact absurd rfl h'
   case refine_4=>
    have:=ht.1 h
    unfold shownQ
    rw [if_neg h1,if_neg h3,if_neg h6,if_pos this,eq]
   case refine_7=>
    have:¬(q.kind=7∨q.kind=8):=fun h'=>by rw [ht.2 h'] at h;cases h
    unfold shownQ
    rw [if_neg h1,if_neg h3,if_neg h6,if_neg this]
   all_goals (rw [maxStr_eq];(try rw [eq]);simp only [List.length_append,List.length_cons,List.length_nil];omega)
  unfold T243_2
  refine ⟨fun h1=>?_,fun h1=>⟨fun h3=>⟨_,c258 H (by omega) (by omega),?_,?_,_,c258 H (by omega) (by omega),?_,?_,?_⟩,fun h3=>⟨fun h6=>⟨_,c15 H.toHas03 hk.1 hk.2,?_,?_,?_⟩,fun h6=>⟨fun h7=>t4 _ h1 h3 h6 (by rw [decide_eq_true_eq];omega),fun h7=>t4 _ h1 h3 h6 (by rw [decide_eq_true_eq];omega)⟩⟩⟩⟩
  case refine_1=>
   unfold T243_3 shownQ
   rw [if_pos h1]
   exact ⟨rfl,rfl⟩
  case refine_6=>
   unfold T243_3 shownQ
   rw [if_neg h1,if_pos h3]
   exact ⟨rfl,rfl⟩
  case refine_9=>
   unfold T243_3 shownQ
   rw [if_neg h1,if_neg h3,if_pos h6]
   exact ⟨rfl,rfl⟩
  all_goals (rw [maxStr_eq];simp only [List.length_append,List.length_cons,List.length_nil];omega))
 exact h
theorem c245 (s:Bytes):Pus prog 245 [.s s] (.tup [(rdTQ s).1.av,.i .i64 (rdTQ s).2]):=by
 obtain ⟨x,y,⟨rfl,rfl⟩,h⟩:=p245 H.f245 (s0:=s) (K:=fun x y=>x=(rdTQ s).1∧y=(rdTQ s).2) (by
  unfold T245_0
  refine ⟨fun h=>?_,fun h=>?_⟩
  ·unfold rdTQ
   rw [if_pos (by omega)]
   exact ⟨rfl,rfl⟩
  have hl:¬2000<s.length:=by omega
  have hr:(cutS s).2.1.length≤1000000000:=by unfold cutS;split<;>simp<;>omega
  have no:¬((gotQ s).2=true∧okQ (gotQ s).1=true∧shownQ (gotQ s).1=s)→rdTQ s=(qz,12):=fun h=>by
   unfold rdTQ
   rw [if_neg hl,if_neg h]
  refine ⟨_,_,_,c260 H (by omega),_,c257 H,_,_,c261 H hr,fun h=>?_,fun h=>⟨_,_,c243 H (gotQ_key s),fun h'=>?_,fun h'=>⟨fun h2=>?_,fun h2=>?_⟩⟩⟩
  ·have h:(!(gotQ s).2)=true:=h
   rw [no fun h'=>by rw [h'.1] at h;cases h]
   exact ⟨rfl,rfl⟩
  ·have h':(txtQ (gotQ s).1).2≠0:=h'
   rw [no fun h2=>by unfold txtQ at h';rw [if_pos h2.2.1] at h';exact h' rfl]
   exact ⟨rfl,rfl⟩
  ·have h':¬(txtQ (gotQ s).1).2≠0:=h'
   have h2:(txtQ (gotQ s).1).1≠s:=h2
   rw [no fun h3=>by unfold txtQ at h2;rw [if_pos h3.2.1] at h2;exact h2 h3.2.2]
   exact ⟨rfl,rfl⟩
  ·have h:(!(gotQ s).2)=false:=h
   have h':¬(txtQ (gotQ s).1).2≠0:=h'
   have h2:¬(txtQ (gotQ s).1).1≠s:=h2
   have ho:okQ (gotQ s).1=true:=by
    rcases Bool.eq_false_or_eq_true (okQ (gotQ s).1) with e | e
    ·exact e
    ·unfold txtQ at h'
     rw [e] at h'
     exact absurd (show (8:Int)≠0 by decide) h'
   unfold txtQ at h2
   rw [if_pos ho] at h2
   unfold rdTQ
   rw [if_neg hl,if_pos ⟨by simpa using h,ho,Decidable.not_not.1 h2⟩]
   exact ⟨rfl,rfl⟩)
 exact h
end
end Go.AM

/- Parts of the proof. -/
namespace Go.AM
open Go
section
variable {f:Bytes→Val × Bool × Bytes} {kind:Int} {e:UInt8}
end
theorem len0 {α:Type} {l:List α} (h:l.length=0):l=[]:=List.length_eq_zero_iff.1 h
theorem fine_ok {v:Val} (h:fine v=true):okv 130 v=true∧v.nodes≤5000:=by
 simpa [fine] using h
noncomputable def sameV (v w:Val):Bool:=@decide (v=w) (Classical.propDecidable _)
theorem sameV_true {v w:Val}:sameV v w=true↔v=w:=by unfold sameV;simp
theorem sameV_false {v w:Val}:sameV v w=false↔v≠w:=by
 rw [← Bool.not_eq_true,sameV_true]
end Go.AM

/- Parts of the proof. -/
namespace Go.AM
open Go
theorem bv_split {x m c:BitVec 64} (h:x &&& ~~~m=c):x=c ||| (x &&& m):=by
 subst h
 apply BitVec.eq_of_getLsbD_eq
 intro i hi
 simp only [BitVec.getLsbD_or,BitVec.getLsbD_and,BitVec.getLsbD_not,hi,decide_true,Bool.true_and]
 cases x.getLsbD i<;>cases m.getLsbD i<;>rfl
theorem bv_two (x:BitVec 64) (i:Nat):x &&& BitVec.twoPow 64 i=BitVec.twoPow 64 i∨x &&& BitVec.twoPow 64 i=0#64:=by
 rw [BitVec.and_twoPow]
 split
 ·exact .inl rfl
 ·exact .inr rfl
theorem wrap_toNat (x:BitVec 64):IntKind.u64.wrap (x.toNat:Int)=(x.toNat:Int):=wr_u64_nat x.isLt
theorem ofInt_toNat {f:Int} (h:0≤f∧f<18446744073709551616):f=((BitVec.ofInt 64 f).toNat:Int):=by
 rw [BitVec.toNat_ofInt];omega
theorem flag2 {f:Int} (h:0≤f∧f<18446744073709551616):bAndNot .u64 f 4=2↔f=2∨f=6:=by
 constructor
 ·intro h1
  have h1:IntKind.u64.wrap ((BitVec.ofInt 64 f &&& ~~~(BitVec.ofInt 64 4)).toNat:Int)=2:=h1
  rw [wrap_toNat] at h1
  have h2:BitVec.ofInt 64 f &&& ~~~(BitVec.ofInt 64 4)=2#64:=BitVec.eq_of_toNat_eq (by rw [show (2#64).toNat=2 from rfl];omega)
  have h3:=bv_split h2
  rw [show BitVec.ofInt 64 4=BitVec.twoPow 64 2 from by decide] at h3
  rcases bv_two (BitVec.ofInt 64 f) 2 with h4 | h4<;>rw [h4] at h3<;>have h5:=ofInt_toNat h<;>rw [h3] at h5
  ·exact .inr h5
  ·exact .inl h5
 ·rintro (rfl | rfl)<;>decide
theorem flag0 {f:Int} (h:0≤f∧f<18446744073709551616):bAndNot .u64 f 5=0↔f=0∨f=1∨f=4∨f=5:=by
 constructor
 ·intro h1
  have h1:IntKind.u64.wrap ((BitVec.ofInt 64 f &&& ~~~(BitVec.ofInt 64 5)).toNat:Int)=0:=h1
  rw [wrap_toNat] at h1
  have h2:BitVec.ofInt 64 f &&& ~~~(BitVec.ofInt 64 5)=0#64:=BitVec.eq_of_toNat_eq (by rw [show (0#64).toNat=0 from rfl];omega)
  have h3:=bv_split h2
  have e:BitVec.ofInt 64 f &&& BitVec.ofInt 64 5=(BitVec.ofInt 64 f &&& BitVec.twoPow 64 2) ||| (BitVec.ofInt 64 f &&& BitVec.twoPow 64 0):=by
   rw [show BitVec.ofInt 64 5=BitVec.twoPow 64 2 ||| BitVec.twoPow 64 0 from by decide]
   apply BitVec.eq_of_getLsbD_eq
   intro i hi
   simp only [BitVec.getLsbD_or,BitVec.getLsbD_and]
   cases (BitVec.ofInt 64 f).getLsbD i<;>rfl
  rw [e] at h3
  have h5:=ofInt_toNat h
  rcases bv_two (BitVec.ofInt 64 f) 2 with h4 | h4<;>rcases bv_two (BitVec.ofInt 64 f) 0 with h6 | h6<;>rw [h4,h6] at h3<;>rw [h3] at h5
  ·exact .inr (.inr (.inr h5))
  ·exact .inr (.inr (.inl h5))
  ·exact .inr (.inl h5)
  ·exact .inl h5
 ·rintro (rfl | rfl | rfl | rfl)<;>decide
def tExit:Bytes:=[101,120,105,116]
def tPan:Bytes:=[112,97,110,105,99,32]
def tRec:Bytes:=[32,114,101,99,111,118,101,114,101,100]
def tAb:Bytes:=[32,97,98,111,114,116,101,100]
def tF1:Bytes:=[102,97,117,108,116,32,49,58,32,100,105,118,105,115,105,111,110,32,98,121,32,122,101,114,111]
def tF2:Bytes:=[102,97,117,108,116,32,50,58,32,110,105,108,32,112,111,105,110,116,101,114]
def tF3:Bytes:=[102,97,117,108,116,32,51,58,32,111,117,116,32,111,102,32,114,97,110,103,101]
def faultT (n:Int):Bytes:=if n=1 then tF1 else if n=2 then tF2 else if n=3 then tF3 else []
def kindT (t:Int):Int:=if t=1 then 2 else if t=2 then 1 else if t=3 then 3 else if t=4 then 2 else 0
structure WfP (p:Pan):Prop where
 t:0≤p.tag∧p.tag<18446744073709551616
 v:Wf p.value
 f:0≤p.flags∧p.flags<18446744073709551616
def isZ (v:Val):Bool:=decide (v.kind=0)&&decide (v.int=0)&&decide (v.text=[])&&decide (v.list.length=0)&&!v.cut
theorem isZ_true {v:Val}:isZ v=true↔v=vz:=by
 unfold isZ
 simp only [Bool.and_eq_true,decide_eq_true_eq,Bool.not_eq_true',and_assoc,List.length_eq_zero_iff]
 cases v with
 | mk k n s l c=>simp
def okP (p:Pan):Bool:=decide (p.tag≤4)&&decide (p.value.kind=kindT p.tag)&&(if p.tag=0 then isZ p.value&&decide (p.flags=2∨p.flags=6)
 else decide (p.flags=0∨p.flags=1∨p.flags=4∨p.flags=5)&&decide (p.tag=4→1≤p.value.int∧p.value.int≤3)&&fine p.value)
def chkP (p:Pan):Int:=if okP p=true then 0 else 8
def baseP (p:Pan):Bytes:=if p.tag=0 then tExit else if p.tag=4 then faultT p.value.int else tPan++txt p.value
def sufP (f:Int):Bytes:=(if f % 2=1 then tRec else [])++(if 4≤f then tAb else [])
def shown (p:Pan):Bytes:=baseP p++sufP p.flags
def lnP (p:Pan):Bytes × Int:=if okP p=true then (shown p,0) else ([],8)
end Go.AM

/- Parts of the proof. -/
namespace Go.AM
open Go
theorem okP_flags {p:Pan} (h:okP p=true):(p.tag=0∧p.value=vz∧(p.flags=2∨p.flags=6))∨(p.tag≠0∧fine p.value=true∧(p.flags=0∨p.flags=1∨p.flags=4∨p.flags=5)):=by
 unfold okP at h
 simp only [Bool.and_eq_true,decide_eq_true_eq] at h
 obtain ⟨⟨h1,h2⟩,h3⟩:=h
 by_cases t0:p.tag=0
 ·rw [if_pos t0] at h3
  simp only [Bool.and_eq_true,decide_eq_true_eq] at h3
  exact .inl ⟨t0,isZ_true.1 h3.1,h3.2⟩
 ·rw [if_neg t0] at h3
  simp only [Bool.and_eq_true,decide_eq_true_eq] at h3
  exact .inr ⟨t0,h3.2,h3.1.1⟩
theorem txt_small {v:Val} (h:fine v=true) (hk:v.kind=1∨v.kind=2∨v.kind=3):(txt v).length≤300:=by
 have h7:=okv_head (fine_ok h).1
 unfold Val.okh Okh at h7
 have h8:=num_len v.int
 have h9:=quo_len v.text
 rw [txt_eq]
 rcases hk with h | h | h<;>rw [h]
 ·rw [if_pos rfl];split<;>decide
 ·show (num v.int).length≤300;omega
 ·show (quo v.text).length≤300;omega
theorem okP_kind {p:Pan} (h:okP p=true) (h0:p.tag≠0):p.value.kind=1∨p.value.kind=2∨p.value.kind=3:=by
 have hf:fine p.value=true:=by rcases okP_flags h with h | h;exact absurd h.1 h0;exact h.2.1
 unfold okP at h
 simp only [Bool.and_eq_true,decide_eq_true_eq] at h
 have h2:=h.1.2
 have h7:=okv_head (fine_ok hf).1
 unfold Val.okh Okh at h7
 unfold kindT at h2
 repeat' split at h2
 all_goals omega
theorem shown_len {p:Pan} (h:okP p=true):(shown p).length≤400:=by
 have hs:(sufP p.flags).length≤18:=by unfold sufP;split<;>split<;>decide
 have hb:(baseP p).length≤310:=by
  unfold baseP
  by_cases t0:p.tag=0
  ·rw [if_pos t0];decide
  rw [if_neg t0]
  split
  ·unfold faultT;repeat' split
   all_goals decide
  ·have hf:fine p.value=true:=by rcases okP_flags h with h | h;exact absurd h.1 t0;exact h.2.1
   have:=txt_small hf (okP_kind h t0)
   rw [List.length_append,show tPan.length=6 from rfl];omega
 unfold shown
 rw [List.length_append];omega
end Go.AM

/- Parts of the proof. -/
namespace Go.AM
open Go
structure Has38 (prog:Prog):Prop extends Has03 prog,HasB prog where
 f71:prog.fn 71=some pf71
 f72:prog.fn 72=some pf72
 f76:prog.fn 76=some pf76
 f77:prog.fn 77=some pf77
 f78:prog.fn 78=some pf78
 f102:prog.fn 102=some pf102
 f103:prog.fn 103=some pf103
 f104:prog.fn 104=some pf104
 f109:prog.fn 109=some pf109
 f110:prog.fn 110=some pf110
 f136:prog.fn 136=some pf136
section
variable {prog:Prog} (H:Has38 prog)
include H
theorem c136 (v:Val):Pus prog 136 [v.av] (.b (decide (v.list.length=0∧v.cut=false))):=by
 obtain ⟨x,rfl,h⟩:=p136 H.f136 (v0:=v) (K:=fun x=>x=decide (v.list.length=0∧v.cut=false)) (by
  unfold T136_0
  refine ⟨fun h=>?_,fun h=>?_⟩
  ·cases v.cut
   ·exact (decide_eq_true ⟨by omega,rfl⟩).symm
   ·exact (decide_eq_false (by rintro ⟨_,h⟩;cases h)).symm
  ·exact (decide_eq_false (by rintro ⟨h1,_⟩;omega)).symm)
 exact h
theorem c102 :∀(d:Nat) {v:Val},Wf v→d≤1000→Pus prog 102 [v.av,.i .i64 (d:Int)] (.b (deepv d v))
 | 0,v,hw,hd=>by
  obtain ⟨x,rfl,h⟩:=p102 H.f102 (v0:=v) (most1:=((0:Nat):Int)) (K:=fun x=>x=deepv 0 v) (by
   unfold T102_0
   exact ⟨fun _=>rfl,fun h=>absurd rfl h⟩)
  exact h
 | d+1,v,hw,hd=>by
  have ih:=@c102 d
  obtain ⟨x,rfl,h⟩:=p102 H.f102 (v0:=v) (most1:=((d+1:Nat):Int)) (K:=fun x=>x=deepv (d+1) v) (by
   have hm:IntKind.i64.wrap (((d+1:Nat):Int)-1)=(d:Int):=by rw [wr_i64 (by omega) (by omega)];omega
   unfold T102_0
   refine ⟨fun h=>absurd h (by omega),fun _=>⟨fun h=>?_,fun h1=>⟨fun h=>?_,fun h2 P hP=>?_⟩⟩⟩
   ·rw [deepv,decide_eq_true (show 100<v.text.length by omega)];rfl
   ·rw [deepv,decide_eq_true (show 400<v.list.length by omega),Bool.or_true];rfl
   ·have e:deepv (d+1) v=v.list.any (deepv d):=by
     rw [deepv,decide_eq_false (by omega),decide_eq_false (by omega)];rfl
    refine loop_inv (P:=fun _ i=>P i v) (fun _=>()) v.list.length (fun i=>(v.list.take i).any (deepv d)=false) (by simp) (fun hI=>?_) (fun i hi hI ihP=>?_)
    ·apply hP
     unfold T102_1 T102_2
     refine ⟨fun h=>absurd h (by omega),fun _=>?_⟩
     rw [List.take_length] at hI
     rw [e,hI]
    ·apply hP
     unfold T102_1
     refine ⟨fun _=>⟨by omega,_,get_at hi,_,by rw [hm];exact ih (hw.e _ (List.getElem_mem hi)) (by omega),fun h3=>?_,fun h3=>?_⟩,fun h=>absurd (show (i:Int)<v.list.length by omega) h⟩
     ·rw [e]
      exact (List.any_eq_true.2 ⟨_,List.getElem_mem hi,h3⟩).symm
     ·rw [wr_succ (by omega)]
      refine ihP ?_
      rw [List.take_succ_eq_append_getElem hi,List.any_append,hI]
      simpa using h3)
  exact h
omit H in
theorem rNs_snoc {l:List Val} {i n:Nat} (hi:i<l.length) (hn:rNs (l.take i) n≤5000):rNs (l.take (i+1)) n=rNs (l.take i) n+rN l[i]:=by
 have key :∀(l:List Val) (v:Val) (n:Nat),rNs l n≤5000→rNs (l++[v]) n=rNs l n+rN v:=by
  intro l
  induction l with
  | nil=>intro v n h;rw [rNs] at h;simp [rNs,h]
  | cons w l ih=>
   intro v n h
   rw [rNs] at h
   by_cases hn:n≤5000
   ·rw [if_pos hn] at h
    simp only [List.cons_append,rNs,if_pos hn]
    exact ih v _ h
   ·rw [if_neg hn] at h
    exact absurd h hn
 rw [List.take_succ_eq_append_getElem hi,key _ _ _ hn]
omit H in
theorem rNs_stop {l:List Val} {i n:Nat} (h:5000<rNs (l.take i) n):rNs l n=rNs (l.take i) n:=by
 have key :∀(l m:List Val) (n:Nat),5000<rNs l n→rNs (l++m) n=rNs l n:=by
  intro l
  induction l with
  | nil=>
   intro m n h
   rw [rNs] at h
   cases m with
   | nil=>rfl
   | cons w m=>simp only [List.nil_append,rNs];rw [if_neg (by omega)]
  | cons w l ih=>
   intro m n h
   rw [rNs] at h
   simp only [List.cons_append,rNs]
   split
   ·rename_i hn;rw [if_pos hn] at h;exact ih m _ h
   ·rfl
 have:=key (l.take i) (l.drop i) n h
 rwa [List.take_append_drop] at this
theorem c103 :∀(d:Nat) {v:Val},Sm d v→d≤1000→Pus prog 103 [v.av] (.i .i64 (rN v:Int))
 | 0,v,hs,hd=>hs.elim
 | d+1,v,hs,hd=>by
  have ih:=@c103 d
  obtain ⟨x,rfl,h⟩:=p103 H.f103 (v0:=v) (K:=fun x=>x=(rN v:Int)) (by
   unfold T103_0
   intro P hP
   have e:=rN_eq v
   refine loop_inv (P:=fun n i=>P n i v) (fun i=>(rNs (v.list.take i) 1:Int)) v.list.length (fun _=>True) trivial (fun _=>?_) (fun i hi _ ihP=>?_)
   ·apply hP
    unfold T103_1 T103_2
    refine ⟨fun h=>absurd h (by omega),fun _=>?_⟩
    rw [List.take_length,e]
   ·apply hP
    unfold T103_1 T103_2
    refine ⟨fun _=>⟨fun h=>⟨by omega,_,get_at hi,_,ih (hs.2 _ (List.getElem_mem hi)) (by omega),?_⟩,fun h=>?_⟩,fun h=>absurd (show (i:Int)<v.list.length by omega) h⟩
    ·have h1:=rN_le (hs.2 _ (List.getElem_mem hi))
     have h2:=hs.1
     have h3:=rNs_snoc (l:=v.list) (n:=1) hi (by omega)
     have:=ihP trivial
     rw [h3] at this
     rw [wr_i64 (by omega) (by omega),wr_succ (by omega)]
     simpa using this
    ·rw [e,rNs_stop (i:=i) (by omega)])
  exact h
theorem c71 {v:Val} (hw:Wf v):Pus prog 71 [v.av] (.b (greatv v)):=by
 obtain ⟨x,rfl,h⟩:=p71 H.f71 (v0:=v) (K:=fun x=>x=greatv v) (by
  unfold T71_0 greatv
  refine ⟨_,c102 H 14 hw (by decide),fun h=>by rw [h];rfl,fun h=>⟨_,c103 H 14 (deepv_sm h) (by decide),?_⟩⟩
  rw [h,Bool.false_or]
  exact decide_eq_decide.2 (by omega))
 exact h
end
end Go.AM

/- Parts of the proof. -/
namespace Go.AM
open Go
theorem bAnd1 (n:Int):bAnd .i64 n 1=n % 2:=by
 unfold bAnd
 have h1:(BitVec.ofInt IntKind.i64.bits n &&& BitVec.ofInt IntKind.i64.bits 1).toNat=(n % 2).toNat:=by
  show (BitVec.ofInt 64 n &&& BitVec.ofInt 64 1).toNat=_
  rw [BitVec.toNat_and]
  have h2:(BitVec.ofInt 64 1).toNat=2 ^ 1-1:=by decide
  rw [h2,Nat.and_two_pow_sub_one_eq_mod,BitVec.toNat_ofInt]
  omega
 rw [h1,wr_i64 (by omega) (by omega)]
 omega
theorem cut_cases (v:Val):(v.cut=true∧v.cut.toNat=1)∨(v.cut=false∧v.cut.toNat=0):=by cases v.cut<;>simp
theorem okv_succ (d:Nat) (v:Val):okv (d+1) v=(decide v.okh&&v.list.all (okv d)):=rfl
theorem okv_no {d:Nat} {v:Val} (h:¬v.okh):okv (d+1) v=false:=by rw [okv_succ,decide_eq_false h];rfl
theorem okv_yes {d:Nat} {v:Val} (h:v.okh):okv (d+1) v=v.list.all (okv d):=by rw [okv_succ,decide_eq_true h];rfl
theorem okv_leaf {d:Nat} {v:Val} (h:v.list.length=0) (p:Prop) [Decidable p] (hp:p↔v.okh):decide p=okv (d+1) v:=by
 rw [okv_succ,decide_eq_decide.2 hp,show v.list.all (okv d)=true by rw [len0 h];rfl,Bool.and_true]
section
variable {prog:Prog} (H:Has38 prog)
include H
set_option maxHeartbeats 1000000 in
theorem c110 :∀(d:Nat) {v:Val},Wf v→d≤1000→Pus prog 110 [v.av,.i .i64 (d:Int)] (.b (okv d v))
 | 0,v,hw,hd=>by
  obtain ⟨x,rfl,h⟩:=p110 H.f110 (v0:=v) (deep1:=((0:Nat):Int)) (K:=fun x=>x=okv 0 v) (by
   unfold T110_0 T110_1
   exact ⟨fun _=>rfl,fun h=>absurd rfl h⟩)
  exact h
 | d+1,v,hw,hd=>by
  have ih:=@c110 d
  obtain ⟨x,rfl,h⟩:=p110 H.f110 (v0:=v) (deep1:=((d+1:Nat):Int)) (K:=fun x=>x=okv (d+1) v) (by
   have hm:IntKind.i64.wrap (((d+1:Nat):Int)-1)=(d:Int):=by rw [wr_i64 (by omega) (by omega)];omega
   have ht:v.text=[]↔v.text.length=0:=List.length_eq_zero_iff.symm
   have no:¬v.okh→false=okv (d+1) v:=fun h=>(okv_no h).symm
   have hl:=hw.l
   have lp:v.okh→∀P:Int→Val→Prop,(∀(i6:Int) (m0:Val),T110_8 prog (fun x=>x=okv (d+1) v) P ((d+1:Nat):Int) i6 m0→P i6 m0)→P 0 v:=by
    intro ho P hP
    have e:=okv_yes (d:=d) ho
    refine loop_inv (P:=fun _ i=>P i v) (fun _=>()) v.list.length (fun i=>(v.list.take i).all (okv d)=true) (by simp) (fun hI=>?_) (fun i hi hI ihP=>?_)
    ·apply hP
     unfold T110_8 T110_9
     refine ⟨fun h=>absurd h (by omega),fun _=>?_⟩
     rw [List.take_length] at hI
     rw [e,hI]
    ·apply hP
     unfold T110_8
     refine ⟨fun _=>⟨by omega,_,get_at hi,_,by rw [hm];exact ih (hw.e _ (List.getElem_mem hi)) (by omega),fun h3=>?_,fun h3=>?_⟩,fun h=>absurd (show (i:Int)<v.list.length by omega) h⟩
     ·rw [e]
      refine (List.all_eq_false.2 ⟨_,List.getElem_mem hi,?_⟩).symm
      simpa using h3
     ·rw [wr_i64 (by omega) (by omega)]
      refine ihP ?_
      rw [List.take_succ_eq_append_getElem hi,List.all_append,hI]
      simpa using h3
   have leaf:v.list.length=0→∀(p:Prop) [Decidable p],(p↔v.okh)→decide p=okv (d+1) v:=fun h p _ hp=>okv_leaf h p hp
   have leafT:v.list.length=0→v.okh→true=okv (d+1) v:=fun h hp=>by rw [← leaf h True (by simpa using hp)];simp
   unfold T110_0 T110_1 T110_2 T110_3 T110_4 T110_5 T110_6 T110_7
   simp only [ht,ne_eq]
   refine ⟨fun h=>absurd h (by omega),fun _=>?_⟩
   rcases cut_cases v with ⟨hc,hcn⟩ | ⟨hc,hcn⟩
   all_goals
    refine ⟨fun _=>⟨_,c136 H v,?_,?_⟩,fun _=>⟨fun _=>⟨_,c136 H v,?_,?_⟩,fun _=>⟨fun _=>⟨_,c136 H v,?_,?_⟩,?_⟩⟩⟩
   all_goals simp only [hc,decide_eq_true_eq,decide_eq_false_iff_not,reduceCtorEq,false_imp_iff,true_imp_iff,and_true,true_and,and_false]
   all_goals repeat' first | refine ⟨fun _=>?_,fun _=>?_⟩ | (intro h)
   all_goals first
    | exact no (by unfold Val.okh Okh;omega)
    | exact leafT (by omega) (by unfold Val.okh Okh;omega)
    | exact leaf (by omega) _ (by unfold Val.okh Okh;omega)
    | exact lp (by unfold Val.okh Okh;omega) _ ‹_›
    | (exfalso;omega))
  exact h
end
end Go.AM

/- Parts of the proof. -/
namespace Go.AM
open Go
section
variable {prog:Prog} (H:Has38 prog)
include H
set_option maxHeartbeats 1000000 in
theorem c109 :∀(d:Nat) {v:Val},Wf v→d≤1000→Pus prog 109 [v.av,.i .i64 (d:Int)] (.tup [.i .i64 (cntR d v).1,.b (cntR d v).2])
 | 0,v,hw,hd=>by
  obtain ⟨x,y,⟨rfl,rfl⟩,h⟩:=p109 H.f109 (v0:=v) (nest1:=((0:Nat):Int)) (K:=fun x y=>x=(cntR 0 v).1∧y=(cntR 0 v).2) (by
   unfold T109_0 T109_1 T109_2 T109_3 T109_4
   have:cntR 0 v=(0,false):=by unfold cntR;rw [if_neg (by rintro ⟨h,_⟩;cases h)]
   rw [this]
   repeat' first | exact ⟨rfl,rfl⟩ | refine ⟨fun _=>?_,fun _=>?_⟩ | (intro h)
   all_goals exact absurd rfl ‹¬((0:Nat):Int)=0›)
  exact h
 | d+1,v,hw,hd=>by
  have ih:=@c109 d
  obtain ⟨x,y,⟨rfl,rfl⟩,h⟩:=p109 H.f109 (v0:=v) (nest1:=((d+1:Nat):Int)) (K:=fun x y=>x=(cntR (d+1) v).1∧y=(cntR (d+1) v).2) (by
   have hm:IntKind.i64.wrap (((d+1:Nat):Int)-1)=(d:Int):=by rw [wr_i64 (by omega) (by omega)];omega
   have ht:v.text=[]↔v.text.length=0:=List.length_eq_zero_iff.symm
   have ht':[]=v.text↔v.text.length=0:=by rw [← ht];exact eq_comm
   have cno:¬(okv (d+1) v=true∧v.nodes≤5000)→cntR (d+1) v=(0,false):=fun h=>by unfold cntR;rw [if_neg h]
   have no:¬v.okh→(0:Int)=(cntR (d+1) v).1∧false=(cntR (d+1) v).2:=fun h=>by
    rw [cno (by rw [okv_no h];rintro ⟨h,_⟩;cases h)];exact ⟨rfl,rfl⟩
   have hl:=hw.l
   have hn:=nodes_eq v
   have lp:v.okh→∀P:Int→Int→Prop,(∀(sum10:Int) (t103:Int),T109_5 prog (fun x y=>x=(cntR (d+1) v).1∧y=(cntR (d+1) v).2) P ((d+1:Nat):Int) sum10 v.list (v.list.length:Int) t103→P sum10 t103)→P 1 0:=by
    intro ho P hP
    have e:=okv_yes (d:=d) ho
    refine loop_inv (P:=fun s i=>P s i) (fun i=>((1+Val.nodesL (v.list.take i):Nat):Int)) v.list.length (fun i=>(v.list.take i).all (okv d)=true∧1+Val.nodesL (v.list.take i)≤5000) (by simp [Val.nodesL]) (fun hI=>?_) (fun i hi hI ihP=>?_)
    ·apply hP
     unfold T109_5 T109_6
     refine ⟨fun h=>absurd h (by omega),fun _=>?_⟩
     rw [List.take_length] at hI ⊢
     unfold cntR
     rw [if_pos ⟨by rw [e];exact hI.1,by omega⟩,hn]
     exact ⟨rfl,rfl⟩
    ·apply hP
     unfold T109_5
     have hnt:=nodesL_take hi
     have hle:=nodesL_le (l:=v.list) (i+1)
     refine ⟨fun _=>⟨by omega,_,get_at hi,_,_,by rw [hm];exact ih (hw.e _ (List.getElem_mem hi)) (by omega),?_⟩,fun h=>absurd (show (i:Int)<v.list.length by omega) h⟩
     by_cases hc:okv d v.list[i]=true∧v.list[i].nodes≤5000
     ·rw [show cntR d v.list[i]=((v.list[i].nodes:Int),true) by unfold cntR;rw [if_pos hc]]
      refine ⟨fun h=>(by cases h),fun _=>⟨fun h=>?_,fun h=>?_⟩⟩
      ·rw [wr_i64 (by omega) (by omega)] at h
       rw [cno (by omega)]
       exact ⟨rfl,rfl⟩
      ·rw [wr_i64 (by omega) (by omega)] at h ⊢
       rw [wr_i64 (by omega) (by omega)]
       have:=ihP ⟨by rw [List.take_succ_eq_append_getElem hi,List.all_append,hI.1];simpa using hc.1,by omega⟩
       rw [hnt] at this
       rw [show ((1+Val.nodesL (v.list.take i):Nat):Int)+(v.list[i].nodes:Int)=((1+(Val.nodesL (v.list.take i)+v.list[i].nodes):Nat):Int) by omega]
       exact this
     ·rw [show cntR d v.list[i]=(0,false) by unfold cntR;rw [if_neg hc]]
      refine ⟨fun _=>?_,fun h=>(by cases h)⟩
      rw [cno (fun h=>hc ⟨okv_sub h.1 _ (List.getElem_mem hi),by have:=nodes_mem (List.getElem_mem hi);omega⟩)]
      exact ⟨rfl,rfl⟩
   unfold T109_0 T109_1 T109_2 T109_3 T109_4
   simp only [Val.int_mk,Val.text_mk,Val.cut_mk,Val.kind_mk,Val.list_mk,bAnd1,ht',ne_eq,not_true_eq_false,false_imp_iff,true_imp_iff,true_and,not_false_eq_true]
   rcases cut_cases v with ⟨hc,hcn⟩ | ⟨hc,hcn⟩
   all_goals simp only [hc,reduceCtorEq,false_imp_iff,true_imp_iff,not_true_eq_false,not_false_eq_true,true_and,and_true]
   all_goals repeat' first | refine ⟨fun _=>?_,fun _=>?_⟩ | (intro h)
   all_goals first
    | exact no (by unfold Val.okh Okh;omega)
    | exact lp (by unfold Val.okh Okh;omega) _ ‹_›
    | (exfalso;omega))
  exact h
theorem c76 {v:Val} (hw:Wf v):Pus prog 76 [v.av] (.i .i64 (chkR v)):=by
 obtain ⟨x,rfl,h⟩:=p76 H.f76 (v0:=v) (K:=fun x=>x=chkR v) (by
  unfold T76_0 chkR
  refine ⟨_,_,c109 H 130 hw (by decide),?_⟩
  unfold cntR fine
  by_cases h:okv 130 v=true∧v.nodes≤5000
  ·rw [if_pos h,if_pos (by simpa using h)]
   exact ⟨fun h=>(by cases h),fun _=>rfl⟩
  ·rw [if_neg h,if_neg (by simpa using h)]
   exact ⟨fun _=>rfl,fun h=>(by cases h)⟩)
 exact h
theorem c77 {v:Val} (hw:Wf v):Pus prog 77 [v.av] (.i .i64 (chkR v)):=by
 obtain ⟨x,rfl,h⟩:=p77 H.f77 (v0:=v) (K:=fun x=>x=chkR v) (by
  unfold T77_0 chkR fine
  refine ⟨_,c110 H 130 hw (by decide),fun h=>?_,fun h=>⟨_,c103 H 130 (okv_sm (by simpa using h)) (by decide),fun h1=>?_,fun h1=>?_⟩⟩
  ·rw [show okv 130 v=false by simpa using h];rfl
  ·have h2:=rN_spec v
   rw [show okv 130 v=true by simpa using h,decide_eq_false (by omega)];rfl
  ·have h2:=rN_spec v
   rw [show okv 130 v=true by simpa using h,decide_eq_true (by omega)];rfl)
 exact h
end
end Go.AM

/- Parts of the proof. -/
namespace Go.AM
open Go
theorem txts_app (l m:List Val):txts (l++m)=txts l++(if l.length=0 then txts m else txtl m):=by
 cases l with
 | nil=>simp [txts]
 | cons a l=>simp [txts,txtl_app]
theorem txts_take_len (l:List Val) (i:Nat):(txts (l.take i)).length≤(txts l).length:=by
 have:=txts_app (l.take i) (l.drop i)
 rw [List.take_append_drop] at this
 rw [this,List.length_append]
 omega
theorem quoR_ok {s:Bytes} (h:s.length≤400):quoR s=(quo s,0):=by
 unfold quoR
 rw [if_neg (by omega)]
section
variable {prog:Prog} (H:Has38 prog)
include H
theorem show_loop {K:Int→Bytes→Prop} {l:List Val} {e0 e1:UInt8} {b:Bytes} (hl:l.length≤16) (hx :∀x∈l,∀b:Bytes,b.length+(txt x).length≤100000000→PuX prog 104 (Bl b) [x.av] (fun r=>r=.i .i64 0) (Bl (b++txt x)))
  (hb:b.length+(txts l).length+2≤100000000) (hK:K 0 (b++[e0]++txts l++[e1])) :∀P0:Int→Bytes→Prop,(∀(t22:Int) (mP:Bytes),T104_9 prog K P0 [e0,e1] l (l.length:Int) t22 mP→P0 t22 mP)→P0 0 (b++[e0]):=by
 intro P hP
 have:=loop_up (P:=fun m i=>P i m) (fun i=>b++[e0]++txts (l.take i)) l.length ?_ fun i hi ihP=>?_
 ·simpa [txts] using this
 ·apply hP
  unfold T104_9 T104_11 T104_4
  rw [List.take_length]
  refine ⟨fun h=>absurd h (by omega),fun _=>⟨by simp,_,_,c126 H.toHasB (s:=[e1]) ?_,hK⟩⟩
  rw [maxBytes_eq];simp only [List.length_append,List.length_cons,List.length_nil];omega
 ·apply hP
  have h1:=txts_take_len l (i+1)
  rw [txts_take hi] at h1 ihP
  simp only [List.length_append] at h1
  unfold T104_9 T104_10
  refine ⟨fun _=>⟨by omega,_,get_at hi,fun h2=>?_,fun h2=>?_⟩,fun h=>absurd (show (i:Int)<l.length by omega) h⟩
  ·rw [if_pos (by omega)] at h1 ihP
   refine ⟨_,_,c126 H.toHasB (s:=[44,32]) ?_,_,_,hx _ (List.getElem_mem hi) _ ?_,fun h=>absurd rfl h,fun _=>?_⟩
   ·rw [maxBytes_eq];simp only [List.length_append,List.length_cons,List.length_nil];omega
   ·simp only [List.length_append,List.length_cons,List.length_nil] at h1 ⊢;omega
   ·rw [wr_succ (by omega)]
    simpa using ihP
  ·rw [if_neg (by omega)] at h1 ihP
   refine ⟨_,_,hx _ (List.getElem_mem hi) _ ?_,fun h=>absurd rfl h,fun _=>?_⟩
   ·simp only [List.length_append,List.length_cons,List.length_nil] at h1 ⊢;omega
   ·rw [wr_succ (by omega)]
    simpa using ihP
set_option maxHeartbeats 1000000 in
theorem c104 :∀(d:Nat) {v:Val},okv d v=true→Wf v→∀b:Bytes,b.length+(txt v).length≤100000000→PuX prog 104 (Bl b) [v.av] (fun r=>r=.i .i64 0) (Bl (b++txt v))
 | 0,v,h,_,_,_=>by cases h
 | d+1,v,h,hw,b,hlen=>by
  have h1:=okv_head h
  have h2:=okv_sub h
  have ih :∀x∈v.list,∀b:Bytes,b.length+(txt x).length≤100000000→PuX prog 104 (Bl b) [x.av] (fun r=>r=.i .i64 0) (Bl (b++txt x)):=fun x hx b hb=>c104 d (h2 _ hx) (hw.e _ hx) b hb
  refine (p104 H.f104 (v1:=v) (mP:=b) (K:=fun r b'=>r=0∧b'=b++txt v) ?_).to fun r b' hk=>?_
  ·have hB :∀{s:Bytes} {a:Int},(txt v)=s→∃r':Int,∃b'':Bytes,PuX prog 126 (Bl b) [.s s] (fun r=>r=.tup [.i .i64 r',.ni]) (Bl b'')∧T104_4 prog (fun r b'=>r=0∧b'=b++txt v) b'':=by
    intro s a hs
    refine ⟨_,_,c126 H.toHasB (s:=s) ?_ (hs ▸ txt_ne v),?_⟩
    ·rw [← hs,maxBytes_eq];omega
    ·unfold T104_4;rw [hs];exact ⟨rfl,rfl⟩
   have hk:1≤v.kind∧v.kind≤7:=by unfold Val.okh Okh at h1;omega
   have hn:=hw.n
   rw [txt_eq] at hlen
   have ht:=txt_eq v
   unfold T104_0 T104_1
   refine ⟨by omega,?_⟩
   have hkk:v.kind=1∨v.kind=2∨v.kind=3∨v.kind=4∨v.kind=5∨v.kind=6∨v.kind=7:=by omega
   rcases hkk with k | k | k | k | k | k | k
   all_goals rw [k]
   all_goals simp only [k,if_true,reduceCtorEq,if_false,Int.reduceEq] at ht hlen
   ·refine ⟨[],rfl,?_⟩
    unfold T104_2 T104_3 T104_5
    rw [k]
    refine ⟨fun _=>⟨fun h=>hB (a:=0) ?_,fun h=>⟨fun _=>hB (a:=0) ?_,fun h=>by simp at h⟩⟩,fun h=>absurd rfl h⟩
    ·rw [ht,if_pos (by simpa using h)];rfl
    ·rw [ht,if_neg (by simpa using h)];rfl
   ·refine ⟨[],rfl,?_⟩
    unfold T104_2 T104_3 T104_5 T104_6
    rw [k]
    refine ⟨fun h=>absurd h (by decide),fun _=>⟨fun h=>(by cases h),fun _=>⟨fun h=>(by simp at h),fun _=>⟨fun _=>⟨_,c15 H.toHas03 hn.1 hn.2,hB (a:=0) ht⟩,fun h=>by simp at h⟩⟩⟩⟩
   ·refine ⟨[],rfl,?_⟩
    unfold T104_2 T104_3 T104_5 T104_6 T104_7
    rw [k]
    refine ⟨fun h=>absurd h (by decide),fun _=>⟨fun h=>(by cases h),fun _=>⟨fun h=>(by simp at h),fun _=>⟨fun h=>(by simp at h),fun _=>⟨fun _=>⟨_,_,c11 H.toHas03 v.text,?_⟩,fun h=>by simp at h⟩⟩⟩⟩⟩
    rw [quoR_ok (by unfold Val.okh Okh at h1;omega)]
    refine ⟨_,_,c126 H.toHasB (s:=quo v.text) ?_,rfl,?_⟩
    ·rw [maxBytes_eq];omega
    ·rw [ht]
   ·refine ⟨[],rfl,?_⟩
    unfold T104_2 T104_3 T104_5 T104_6 T104_7 T104_8
    rw [k]
    refine ⟨fun h=>absurd h (by decide),fun _=>⟨fun h=>(by cases h),fun _=>⟨fun h=>(by simp at h),fun _=>⟨fun h=>(by simp at h),fun _=>⟨fun h=>(by simp at h),fun _=>⟨fun _=>⟨fun hc=>hB (a:=0) ?_,fun hc=>⟨fun _=>⟨fun hl=>hB (a:=0) ?_,fun hl=>⟨fun _=>?_,fun h=>absurd rfl h⟩⟩,fun h=>absurd rfl h⟩⟩,fun h=>absurd rfl h⟩⟩⟩⟩⟩⟩
    ·rw [ht,if_pos hc];rfl
    ·rw [ht,if_neg (by rw [hc];decide),if_pos (by omega)];rfl
    ·rw [if_neg (by rw [hc];decide),if_neg (by omega)] at ht hlen
     have hl1:v.list.length=1:=by unfold Val.okh Okh at h1;omega
     obtain ⟨w,hw1⟩:=List.length_eq_one_iff.1 hl1
     rw [hw1,txts_one] at hlen ht
     simp only [List.length_cons] at hlen
     refine ⟨_,_,c126 H.toHasB (s:=[38]) ?_,w,by rw [hw1];rfl,_,_,ih w (by rw [hw1];exact List.mem_cons_self) _ ?_,rfl,?_⟩
     ·rw [maxBytes_eq];simp only [List.length_cons,List.length_nil];omega
     ·simp only [List.length_append,List.length_cons,List.length_nil];omega
     ·rw [ht];simp
   ·have hc:v.cut=false:=by
     have:v.cut.toNat=0:=by unfold Val.okh Okh at h1;omega
     cases hc:v.cut
     ·rfl
     ·rw [hc] at this;cases this
    refine ⟨[123,125],rfl,?_⟩
    unfold T104_2 T104_3 T104_5 T104_6 T104_7 T104_8
    rw [k]
    refine ⟨fun h=>absurd h (by decide),fun _=>⟨fun h=>(by cases h),fun _=>⟨fun h=>(by simp at h),fun _=>⟨fun h=>(by simp at h),fun _=>⟨fun h=>(by simp at h),fun _=>⟨fun h=>absurd h (by decide),fun _=>⟨fun h=>(by cases h),fun _=>⟨fun h=>absurd h (by decide),fun _=>⟨fun h=>absurd h (by decide),fun _=>⟨fun h=>(by rw [hc] at h;cases h),fun _=>⟨by decide,_,_,c126 H.toHasB (s:=[123]) ?_,?_⟩⟩⟩⟩⟩⟩⟩⟩⟩⟩⟩
    ·rw [maxBytes_eq];simp only [List.length_cons,List.length_nil,List.length_append] at hlen ⊢;omega
    ·simp only [List.length_cons,List.length_nil,List.length_append] at hlen
     exact show_loop H (by unfold Val.okh Okh at h1;omega) ih (by omega) ⟨rfl,by rw [ht];simp⟩
   ·have hc:v.cut=false:=by
     have:v.cut.toNat=0:=by unfold Val.okh Okh at h1;omega
     cases hc:v.cut
     ·rfl
     ·rw [hc] at this;cases this
    refine ⟨[91,93],rfl,?_⟩
    unfold T104_2 T104_3 T104_5 T104_6 T104_7 T104_8
    rw [k]
    refine ⟨fun h=>absurd h (by decide),fun _=>⟨fun h=>(by cases h),fun _=>⟨fun h=>(by simp at h),fun _=>⟨fun h=>(by simp at h),fun _=>⟨fun h=>(by simp at h),fun _=>⟨fun h=>absurd h (by decide),fun _=>⟨fun h=>(by cases h),fun _=>⟨fun h=>absurd h (by decide),fun _=>⟨fun h=>absurd h (by decide),fun _=>⟨fun h=>(by rw [hc] at h;cases h),fun _=>⟨by decide,_,_,c126 H.toHasB (s:=[91]) ?_,?_⟩⟩⟩⟩⟩⟩⟩⟩⟩⟩⟩
    ·rw [maxBytes_eq];simp only [List.length_cons,List.length_nil,List.length_append] at hlen ⊢;omega
    ·simp only [List.length_cons,List.length_nil,List.length_append] at hlen
     exact show_loop H (by unfold Val.okh Okh at h1;omega) ih (by omega) ⟨rfl,by rw [ht];simp⟩
   ·refine ⟨[60,62],rfl,?_⟩
    unfold T104_2 T104_3 T104_5 T104_6 T104_7 T104_8
    rw [k]
    refine ⟨fun h=>absurd h (by decide),fun _=>⟨fun h=>(by cases h),fun _=>⟨fun h=>(by simp at h),fun _=>⟨fun h=>(by simp at h),fun _=>⟨fun h=>(by simp at h),fun _=>⟨fun h=>absurd h (by decide),fun _=>⟨fun h=>(by cases h),fun _=>⟨fun h=>absurd h (by decide),fun _=>⟨fun h=>absurd h (by decide),fun _=>⟨fun hc=>hB (a:=0) ?_,fun hc=>⟨by decide,_,_,c126 H.toHasB (s:=[60]) ?_,?_⟩⟩⟩⟩⟩⟩⟩⟩⟩⟩⟩
    ·rw [ht,if_pos hc];rfl
    ·rw [if_neg (by rw [hc];decide)] at hlen
     rw [maxBytes_eq];simp only [List.length_cons,List.length_nil,List.length_append] at hlen ⊢;omega
    ·rw [if_neg (by rw [hc];decide)] at hlen ht
     simp only [List.length_cons,List.length_nil,List.length_append] at hlen
     exact show_loop H (by unfold Val.okh Okh at h1;omega) ih (by omega) ⟨rfl,by rw [ht];simp⟩
  ·obtain ⟨x0,h1,rfl,rfl⟩:=hk
   exact ⟨h1,rfl⟩
theorem c72 {v:Val} (hw:Wf v):Pus prog 72 [v.av] (.tup [.s (if fine v=true then txt v else []),.i .i64 (chkR v)]):=by
 obtain ⟨x,y,⟨rfl,rfl⟩,h⟩:=p72 H.f72 (v0:=v) (K:=fun x y=>x=(if fine v=true then txt v else [])∧y=chkR v) (by
  unfold T72_0
  refine ⟨_,c76 H hw,fun h=>?_,fun h=>?_⟩
  ·unfold chkR at h ⊢
   by_cases hf:fine v=true
   ·rw [if_pos hf] at h;exact absurd rfl h
   ·rw [if_neg hf,if_neg hf];exact ⟨rfl,rfl⟩
  ·unfold chkR at h ⊢
   by_cases hf:fine v=true
   ·rw [if_pos hf,if_pos hf]
    have:=fine_len hf
    refine ⟨_,_,c104 H 130 (fine_ok hf).1 hw [] (by simp only [List.length_nil];omega),fun h=>absurd rfl h,fun _=>⟨_,c105 H.toHasB (by rw [List.nil_append,maxBytes_eq];omega),rfl,rfl⟩⟩
   ·rw [if_neg hf] at h;exact absurd (by decide) h)
 exact h
end
end Go.AM

/- Parts of the proof. -/
namespace Go.AM
open Go
section
variable {prog:Prog} (H:Has38 prog)
include H
end
end Go.AM

/- Parts of the proof. -/
namespace Go.AM
open Go
section
variable {f:Bytes→Val × Bool × Bytes}
end
section
variable {prog:Prog} (H:Has38 prog)
include H
omit H in
theorem chk_fine {v:Val}:chkR v=0↔fine v=true:=by
 unfold chkR
 by_cases h:fine v=true
 ·rw [if_pos h];simp [h]
 ·rw [if_neg h];simp [h]
end
end Go.AM

/- Parts of the proof. -/
namespace Go.AM
open Go
section
variable {prog:Prog} (H:Has38 prog)
include H
theorem c78 {a:Val} (hw:Wf a) :∀b:Val,Pus prog 78 [a.av,b.av] (.b (sameV a b)):=by
 induction hw with
 | @mk k n s l c hk hn hl _ ih=>
  intro b
  obtain ⟨x,rfl,h⟩:=p78 H.f78 (a0:=Val.mk k n s l c) (b1:=b) (K:=fun x=>x=sameV (Val.mk k n s l c) b) (by
   have no :∀{p:Prop},(Val.mk k n s l c=b→p)→¬p→false=sameV (Val.mk k n s l c) b:=fun h1 h2=>(sameV_false.2 fun h=>h2 (h1 h)).symm
   unfold T78_0
   refine ⟨fun h=>no (fun e=>by rw [← e]) h,fun h1=>⟨fun h=>no (fun e=>by rw [← e]) h,fun h2=>⟨fun h=>no (fun e=>by rw [← e]) h,fun h3=>⟨fun h=>no (fun e=>by rw [← e]) h,fun h4=>⟨fun h=>no (fun e=>by rw [← e]) h,fun h5 P hP=>?_⟩⟩⟩⟩⟩
   have h1:=Decidable.not_not.1 h1
   have h2:=Decidable.not_not.1 h2
   have h3:=Decidable.not_not.1 h3
   have h4:=Decidable.not_not.1 h4
   have h5:l.length=b.list.length:=by have:=Decidable.not_not.1 h5;simp only [Val.list_mk] at this;omega
   refine loop_inv (P:=fun _ i=>P i (Val.mk k n s l c) b) (fun _=>()) l.length (fun i=>l.take i=b.list.take i) (by simp) (fun hI=>?_) (fun i hi hI ihP=>?_)
   ·apply hP
    unfold T78_1 T78_2
    refine ⟨fun h=>absurd h (by simp only [Val.list_mk];omega),fun _=>(sameV_true.2 ?_).symm⟩
    rw [List.take_length,h5,List.take_length] at hI
    rw [b.eta,← h1,← h2,← h3,← h4,hI]
    rfl
   ·apply hP
    have hi2:i<b.list.length:=by omega
    unfold T78_1
    refine ⟨fun _=>⟨by omega,l[i],get_at (l:=l) hi,by omega,b.list[i],get_at hi2,_,ih _ (List.getElem_mem hi) _,fun h6=>?_,fun h6=>?_⟩,fun h=>absurd (show (i:Int)<l.length by omega) h⟩
    ·refine no (p:=l[i]=b.list[i]) (fun e=>?_) (sameV_false.1 (by simpa using h6))
     subst e
     rfl
    ·rw [wr_i64 (by omega) (by omega)]
     refine ihP ?_
     have h7:l[i]=b.list[i]:=sameV_true.1 (by simpa using h6)
     rw [List.take_succ_eq_append_getElem hi,List.take_succ_eq_append_getElem hi2,hI,h7])
  exact h
end
end Go.AM

/- Parts of the proof. -/
namespace Go.AM
open Go
structure HasO (prog:Prog):Prop extends Has38 prog where
 f154:prog.fn 154=some pf154
 f158:prog.fn 158=some pf158
 f159:prog.fn 159=some pf159
 f178:prog.fn 178=some pf178
 f183:prog.fn 183=some pf183
def faults4:List Bytes:=[[],tF1,tF2,tF3]
def kinds5:List UInt8:=[0,2,1,3,2]
theorem kinds5_at {t:Int} (h:0≤t) (h4:¬t>4) :∃c:UInt8,kinds5[t.toNat]?=some c∧((c.toNat:Nat):Int)=kindT t:=by
 rcases (show t=0∨t=1∨t=2∨t=3∨t=4 by omega) with rfl | rfl | rfl | rfl | rfl
 ·exact ⟨0,rfl,rfl⟩
 ·exact ⟨2,rfl,rfl⟩
 ·exact ⟨1,rfl,rfl⟩
 ·exact ⟨3,rfl,rfl⟩
 ·exact ⟨2,rfl,rfl⟩
theorem faults4_at {n:Int} (h:1≤n) (h3:n≤3):faults4[n.toNat]?=some (faultT n):=by
 rcases (show n=1∨n=2∨n=3 by omega) with rfl | rfl | rfl<;>rfl
theorem okP_no4 {p:Pan} (h:p.tag>4):okP p=false:=by unfold okP;rw [decide_eq_false (by omega)];rfl
theorem okP_nok {p:Pan} (h:p.value.kind≠kindT p.tag):okP p=false:=by unfold okP;rw [decide_eq_false h];simp
theorem okP_0 {p:Pan} (h:p.tag=0) (hk:p.value.kind=kindT p.tag):okP p=(isZ p.value&&decide (p.flags=2∨p.flags=6)):=by
 unfold okP;rw [decide_eq_true hk,decide_eq_true (by omega),if_pos h];rfl
theorem okP_n0 {p:Pan} (h4:¬p.tag>4) (h:p.tag≠0) (hk:p.value.kind=kindT p.tag):okP p=(decide (p.flags=0∨p.flags=1∨p.flags=4∨p.flags=5)&&decide (p.tag=4→1≤p.value.int∧p.value.int≤3)&&fine p.value):=by
 unfold okP;rw [decide_eq_true hk,decide_eq_true (by omega),if_neg h];rfl
theorem chkP_no {p:Pan} (h:okP p=false):chkP p=8:=by unfold chkP;rw [h];rfl
theorem chkP_yes {p:Pan} (h:okP p=true):chkP p=0:=by unfold chkP;rw [h];rfl
theorem chkP_iff {p:Pan}:chkP p=0↔okP p=true:=by unfold chkP;split<;>simp_all
section
variable {prog:Prog} (H:HasO prog)
include H
theorem c178:Pus prog 178 [] (.ag (faults4.map AV.s)):=by
 obtain ⟨x,rfl,h⟩:=p178 H.f178 (K:=fun x=>x=faults4) rfl
 exact h
theorem c183:Pus prog 183 [] (.ag (kinds5.map c8)):=by
 obtain ⟨x,rfl,h⟩:=p183 H.f183 (K:=fun x=>x=kinds5) rfl
 exact h
theorem c158 {p:Pan} (hp:WfP p):Pus prog 158 [p.av] (.i .i64 (chkP p)):=by
 obtain ⟨x,rfl,h⟩:=p158 H.f158 (p0:=p) (K:=fun x=>x=chkP p) (by
  unfold T158_0 T158_1
  refine ⟨fun h=>(chkP_no (okP_no4 h)).symm,fun h4=>?_⟩
  obtain ⟨c,g1,g2⟩:=kinds5_at hp.t.1 h4
  refine ⟨_,c183 H,rfl,hp.t.1,c,g1,fun h=>(chkP_no (okP_nok (by rw [← g2];exact h))).symm,fun h=>?_⟩
  have hk:p.value.kind=kindT p.tag:=by rw [← g2];exact Decidable.not_not.1 h
  unfold T158_2
  refine ⟨fun h0=>?_,fun h0=>?_⟩
  ·have e:=okP_0 h0 hk
   have hk0:p.value.kind=0:=by rw [hk,h0];rfl
   have no:isZ p.value=false→8=chkP p:=fun h=>(chkP_no (by rw [e,h];rfl)).symm
   have nz :∀{q:Prop},(p.value=vz→q)→¬q→isZ p.value=false:=fun a b=>by rw [← Bool.not_eq_true,isZ_true];exact fun h=>b (a h)
   refine ⟨fun h=>no (nz (fun e=>by rw [e];rfl) h),fun h1=>⟨fun h=>no (nz (fun e=>by rw [e];rfl) h),fun h2=>⟨fun h=>no (nz (q:=¬((p.value.list.length:Int)>0)) (fun e=>by rw [e];decide) (fun h'=>h' h)),fun h3=>⟨fun h=>no (nz (q:=p.value.cut=false) (fun e=>by rw [e];rfl) (by rw [h];decide)),fun h4=>?_⟩⟩⟩⟩
   have hz:isZ p.value=true:=by
    unfold isZ
    rw [decide_eq_true hk0,decide_eq_true (Decidable.not_not.1 h1),decide_eq_true (Decidable.not_not.1 h2),decide_eq_true (by omega),h4];rfl
   have fl:=flag2 hp.f
   rw [hz,Bool.true_and] at e
   refine ⟨fun h=>(chkP_no (by rw [e];exact decide_eq_false fun h'=>h (fl.2 h'))).symm,fun h=>(chkP_yes (by rw [e];exact decide_eq_true (fl.1 (Decidable.not_not.1 h)))).symm⟩
  ·have e:=okP_n0 h4 h0 hk
   have fl:=flag0 hp.f
   unfold T158_3
   refine ⟨fun h=>(chkP_no (by rw [e,decide_eq_false (fun h'=>h (fl.2 h'))];rfl)).symm,fun h=>?_⟩
   rw [decide_eq_true (fl.1 (Decidable.not_not.1 h)),Bool.true_and] at e
   have last:(p.tag=4→1≤p.value.int∧p.value.int≤3)→T158_4 prog (fun x=>x=chkP p) p:=fun hh=>by
    unfold T158_4
    refine ⟨_,c76 H.toHas38 hp.v,?_⟩
    rw [decide_eq_true hh,Bool.true_and] at e
    unfold chkR chkP
    rw [e]
   refine ⟨fun h5=>⟨fun h=>(chkP_no (by rw [e,decide_eq_false (fun h'=>by have:=h' h5;omega)];rfl)).symm,fun h6=>⟨fun h=>(chkP_no (by rw [e,decide_eq_false (fun h'=>by have:=h' h5;omega)];rfl)).symm,fun h7=>last fun _=>by omega⟩⟩,fun h5=>last fun h'=>absurd h' h5⟩)
 exact h
theorem c159 {p:Pan} (hp:WfP p):Pus prog 159 [p.av] (.i .i64 (chkP p)):=by
 obtain ⟨x,rfl,h⟩:=p159 H.f159 (p0:=p) (K:=fun x=>x=chkP p) (by
  unfold T159_0 T159_1
  refine ⟨_,c77 H.toHas38 hp.v,?_⟩
  have ef:decide (chkR p.value=0)=fine p.value:=by
   cases h:fine p.value with
   | true=>exact decide_eq_true (chk_fine.2 h)
   | false=>exact decide_eq_false fun h'=>by rw [chk_fine.1 h'] at h;cases h
  rw [ef]
  unfold T159_2 T159_3
  refine ⟨fun h=>(chkP_no (okP_no4 h)).symm,fun h4=>?_⟩
  obtain ⟨c,g1,g2⟩:=kinds5_at hp.t.1 h4
  refine ⟨hp.t.1,c,g1,fun h=>(chkP_no (okP_nok (by rw [← g2];exact h))).symm,fun h=>?_⟩
  have hk:p.value.kind=kindT p.tag:=by rw [← g2];exact Decidable.not_not.1 h
  have t6 :∀b:Bool,okP p=b→T159_6 prog (fun x=>x=chkP p) b:=fun b hb=>by
   unfold T159_6
   cases b with
   | true=>exact ⟨fun h=>(by cases h),fun _=>(chkP_yes hb).symm⟩
   | false=>exact ⟨fun _=>(chkP_no hb).symm,fun h=>(by cases h)⟩
  have t5 :∀b:Bool,(okP p=(b&&decide (p.tag=4→1≤p.value.int∧p.value.int≤3)))→T159_5 prog (fun x=>x=chkP p) b p:=fun b hb=>by
   unfold T159_5
   refine ⟨fun h=>⟨fun h1=>⟨fun h2=>t6 _ ?_,fun h2=>t6 _ ?_⟩,fun h1=>t6 _ (by rw [hb,h1];rfl)⟩,fun h=>t6 _ ?_⟩
   ·rw [hb,h1,Bool.true_and];exact decide_eq_decide.2 ⟨fun h3=>(h3 h).2,fun h3 _=>⟨h2,h3⟩⟩
   ·rw [hb,decide_eq_false (fun h3=>h2 (h3 h).1),Bool.and_false]
   ·rw [hb,decide_eq_true fun h3=>absurd h3 h,Bool.and_true]
  unfold T159_4
  refine ⟨fun h0=>?_,fun h0=>?_⟩
  ·have e:=okP_0 h0 hk
   have e5:decide (p.tag=4→1≤p.value.int∧p.value.int≤3)=true:=decide_eq_true fun h=>by omega
   refine ⟨_,c78 H.toHas38 hp.v vz,fun h=>?_,fun h=>t5 _ ?_⟩
   ·have hz:isZ p.value=true:=isZ_true.2 (sameV_true.1 h)
    rw [hz,Bool.true_and] at e
    refine ⟨fun h1=>t5 _ ?_,fun h1=>t5 _ ?_⟩
    ·rw [e,e5,decide_eq_true (.inl h1)];rfl
    ·rw [e,e5,Bool.and_true];exact decide_eq_decide.2 ⟨fun h=>h.resolve_left h1,.inr⟩
   ·have hz:isZ p.value=false:=by rw [← Bool.not_eq_true,isZ_true];exact sameV_false.1 h
    rw [e,hz];rfl
  ·have e:=okP_n0 h4 h0 hk
   refine ⟨fun hf=>?_,fun hf=>t5 _ (by rw [e,hf];simp)⟩
   rw [hf,Bool.and_true] at e
   refine ⟨fun h1=>t5 _ ?_,fun h1=>⟨fun h2=>t5 _ ?_,fun h2=>⟨fun h3=>t5 _ ?_,fun h3=>t5 _ ?_⟩⟩⟩
   ·rw [e,decide_eq_true (.inl h1)]
   ·rw [e,decide_eq_true (.inr (.inl h2))]
   ·rw [e,decide_eq_true (.inr (.inr (.inl h3)))]
   ·rw [e];congr 1;exact decide_eq_decide.2 ⟨fun h=>by omega,fun h=>by omega⟩)
 exact h
omit H in
theorem and1 {f:Int} (h:f=0∨f=1∨f=2∨f=4∨f=5∨f=6):(bAnd .u64 f 1≠0↔f % 2=1)∧(bAnd .u64 f 4≠0↔4≤f)∧(f.tmod 2=1↔f % 2=1):=by
 rcases h with rfl | rfl | rfl | rfl | rfl | rfl<;>decide
omit H in
theorem okP_f6 {p:Pan} (h:okP p=true):p.flags=0∨p.flags=1∨p.flags=2∨p.flags=4∨p.flags=5∨p.flags=6:=by rcases okP_flags h with ⟨_,_,h⟩ | ⟨_,_,h⟩<;>omega
omit H in
theorem okP_4 {p:Pan} (h:okP p=true) (h4:p.tag=4):1≤p.value.int∧p.value.int≤3:=by
 unfold okP at h
 simp only [Bool.and_eq_true,decide_eq_true_eq] at h
 have h3:=h.2
 rw [if_neg (by omega)] at h3
 simp only [Bool.and_eq_true,decide_eq_true_eq] at h3
 exact h3.1.2 h4
omit H in
theorem shown_steps {p:Pan} {b:Bytes} (hb:b=baseP p):shown p=(b++(if p.flags % 2=1 then tRec else []))++(if 4≤p.flags then tAb else []):=by
 rw [hb,shown,sufP,List.append_assoc]
theorem c154 {p:Pan} (hp:WfP p):Pus prog 154 [p.av] (.tup [.s (lnP p).1,.i .i64 (lnP p).2]):=by
 obtain ⟨x,y,⟨rfl,rfl⟩,h⟩:=p154 H.f154 (p0:=p) (K:=fun x y=>x=(lnP p).1∧y=(lnP p).2) (by
  unfold T154_0
  refine ⟨_,c158 H hp,fun h=>?_,fun h=>?_⟩
  ·have h1:okP p≠true:=fun h'=>h (chkP_iff.2 h')
   unfold lnP chkP;rw [if_neg h1,if_neg h1];exact ⟨rfl,rfl⟩
  ·have ho:=chkP_iff.1 (Decidable.not_not.1 h)
   have hl:=shown_len ho
   obtain ⟨a1,a2,a3⟩:=and1 (okP_f6 ho)
   unfold lnP;rw [if_pos ho]
   have t1 :∀b,b=baseP p→T154_1 prog (fun x y=>x=(shown p,(0:Int)).1∧y=(shown p,(0:Int)).2) b p:=fun b hb=>by
    have e:=shown_steps hb
    have hl:b.length≤400:=by rw [e,List.length_append,List.length_append] at hl;omega
    unfold T154_1 T154_2 T154_3
    simp only [List.length_append,List.length_cons,List.length_nil,maxStr_eq]
    refine ⟨fun h1=>⟨by omega,fun h2=>⟨by omega,?_,trivial⟩,fun h2=>⟨?_,trivial⟩⟩,fun h1=>⟨fun h2=>⟨by omega,?_,trivial⟩,fun h2=>⟨?_,trivial⟩⟩⟩
    ·rw [e,if_pos (a1.1 h1),if_pos (a2.1 h2)];rfl
    ·rw [e,if_pos (a1.1 h1),if_neg fun h=>h2 (a2.2 h),List.append_nil];rfl
    ·rw [e,if_neg fun h=>h1 (a1.2 h),if_pos (a2.1 h2),List.append_nil];rfl
    ·rw [e,if_neg fun h=>h1 (a1.2 h),if_neg fun h=>h2 (a2.2 h),List.append_nil,List.append_nil]
   refine ⟨fun h0=>t1 _ (by unfold baseP;rw [if_pos h0];rfl),fun h0=>⟨fun h4=>?_,fun h4=>?_⟩⟩
   ·obtain ⟨g1,g2⟩:=okP_4 ho h4
    exact ⟨_,c178 H,rfl,by omega,_,faults4_at g1 g2,t1 _ (by unfold baseP;rw [if_neg h0,if_pos h4])⟩
   ·have hf:fine p.value=true:=by rcases okP_flags ho with h | h;exact absurd h.1 h0;exact h.2.1
    have:=fine_len hf
    refine ⟨_,_,c72 H.toHas38 hp.v,fun h=>absurd (chk_fine.2 hf) h,fun _=>?_⟩
    rw [if_pos hf]
    refine ⟨?_,t1 _ (by unfold baseP;rw [if_neg h0,if_neg h4];rfl)⟩
    simp only [List.length_cons,List.length_nil,maxStr_eq];omega)
 exact h
end
end Go.AM

/- Parts of the proof. -/
namespace Go.AM
open Go
structure HasP (prog:Prog):Prop extends HasO prog
section
variable {prog:Prog} (H:HasP prog)
include H
end
end Go.AM

/- Parts of the proof. -/
namespace Go.AM
open Go
structure HasQ (prog:Prog):Prop extends HasP prog where
 f162:prog.fn 162=some pf162
 f163:prog.fn 163=some pf163
 f169:prog.fn 169=some pf169
def chainR (l:List Pan):Int:=if 410<l.length then 4 else if l.all okP=true then 0 else 8
def greatC (l:List Pan):Bool:=(decide (20<l.length)&&decide (l.length≤410))||decide (420<l.length)||l.any (fun p=>greatv p.value)
theorem chain_all {l:List Pan} (h:¬410<l.length) (ho :∀p∈l,okP p=true):chainR l=0:=by
 unfold chainR;rw [if_neg h,if_pos (List.all_eq_true.2 ho)]
theorem chain_not {l:List Pan} (h:¬410<l.length) {p:Pan} (hp:p∈l) (ho:okP p≠true):chainR l=8:=by
 unfold chainR;rw [if_neg h,if_neg fun h'=>ho (List.all_eq_true.1 h' p hp)]
theorem chain_ok {l:List Pan} (h:chainR l=0):l.length≤410∧∀p∈l,okP p=true:=by
 unfold chainR at h
 split at h
 ·cases h
 ·split at h
  ·rename_i h1 h2;exact ⟨by omega,List.all_eq_true.1 h2⟩
  ·cases h
section
variable {prog:Prog} (H:HasQ prog)
include H
theorem c163 {l:List Pan} (hw :∀p∈l,WfP p):Pus prog 163 [.sl .ext (l.map Pan.row)] (.i .i64 (chainR l)):=by
 obtain ⟨x,rfl,h⟩:=p163 H.f163 (l0:=l) (K:=fun x=>x=chainR l) (by
  unfold T163_0
  refine ⟨fun h=>by unfold chainR;rw [if_pos (by omega)],fun h P hP=>?_⟩
  refine loop_inv0 l.length (fun i=>∀p∈l.take i,okP p=true) (by simp) (fun hI=>hP _ ?_) fun i hi hI next=>hP _ ?_
  ·unfold T163_1 T163_2
   rw [List.take_length] at hI
   exact ⟨fun h=>absurd h (by omega),fun _=>(chain_all (by omega) hI).symm⟩
  ·unfold T163_1
   refine ⟨fun _=>⟨by omega,_,get_at hi,_,c159 H.toHasO (hw _ (List.getElem_mem hi)),fun h1=>?_,fun h1=>?_⟩,fun h=>absurd (show (i:Int)<l.length by omega) h⟩
   ·have hn:okP l[i]≠true:=fun h'=>h1 (chkP_iff.2 h')
    rw [chain_not (by omega) (List.getElem_mem hi) hn,chkP_no (by simpa using hn)]
   ·rw [wr_i64 (by omega) (by omega)]
    refine next fun p hp=>?_
    rw [List.take_succ_eq_append_getElem hi] at hp
    rcases List.mem_append.1 hp with hp | hp
    ·exact hI p hp
    ·rw [List.mem_singleton.1 hp];exact chkP_iff.1 (Decidable.not_not.1 h1))
 exact h
theorem c162 {l:List Pan} (hw :∀p∈l,WfP p):Pus prog 162 [.sl .ext (l.map Pan.row)] (.b (greatC l)):=by
 obtain ⟨x,rfl,h⟩:=p162 H.f162 (l0:=l) (K:=fun x=>x=greatC l) (by
  have t1:(decide (20<l.length)&&decide (l.length≤410))=false→¬420<l.length→T162_1 prog (fun x=>x=greatC l) l:=fun h1 h2=>by
   unfold T162_1
   intro P hP
   have e:greatC l=l.any (fun p=>greatv p.value):=by unfold greatC;rw [h1,decide_eq_false h2];rfl
   rw [e] at hP
   refine loop_inv0 l.length (fun i=>∀p∈l.take i,greatv p.value=false) (by simp) (fun hI=>hP _ ?_) fun i hi hI next=>hP _ ?_
   ·unfold T162_2 T162_3
    rw [List.take_length] at hI
    exact ⟨fun h=>absurd h (by omega),fun _=>(List.any_eq_false.2 fun p hp=>by simpa using hI p hp).symm⟩
   ·unfold T162_2
    refine ⟨fun _=>⟨by omega,_,get_at hi,_,c71 H.toHas38 (hw _ (List.getElem_mem hi)).v,fun h1=>(List.any_eq_true.2 ⟨_,List.getElem_mem hi,h1⟩).symm,fun h1=>?_⟩,fun h=>absurd (show (i:Int)<l.length by omega) h⟩
    rw [wr_i64 (by omega) (by omega)]
    refine next fun p hp=>?_
    rw [List.take_succ_eq_append_getElem hi] at hp
    rcases List.mem_append.1 hp with hp | hp
    ·exact hI p hp
    ·rw [List.mem_singleton.1 hp];exact h1
  unfold T162_0
  refine ⟨fun h1=>⟨fun h2=>?_,fun h2=>⟨fun h3=>?_,fun h3=>?_⟩⟩,fun h1=>⟨fun h3=>?_,fun h3=>?_⟩⟩
  ·unfold greatC;rw [decide_eq_true (by omega),decide_eq_true (by omega)];rfl
  ·unfold greatC;rw [decide_eq_true (p:=420<l.length) (by omega)];simp
  ·exact t1 (by rw [decide_eq_false (p:=l.length≤410) (by omega)];simp) (by omega)
  ·omega
  ·exact t1 (by rw [decide_eq_false (p:=20<l.length) (by omega)];rfl) (by omega))
 exact h
end
section
variable {prog:Prog} (H:HasQ prog)
include H
end
end Go.AM

/- Parts of the proof. -/
namespace Go.AM
open Go
def gFld (s:Fld):Bool:=decide (40<s.name.length)
def gFun (f:Fun):Bool:=decide (40<f.name.length)||decide (30<f.slots.length)||decide (300<f.code.length)||f.slots.any gFld
def greatI (m:Img):Bool:=(m.funcs.take 41).any gFun||decide (40<m.funcs.length)
def greatX (x:Frm):Bool:=(x.locals.take 21).any (fun l=>greatv l.value)||decide (20<x.locals.length)
structure OkI (m:Img):Prop where
 n:m.funcs.length≤40
 f :∀f∈m.funcs,f.name.length≤40∧f.slots.length≤30∧f.code.length≤300∧∀s∈f.slots,s.name.length≤40
theorem OkI.of {m:Img} (h:greatI m=false):OkI m:=by
 simp only [greatI,Bool.or_eq_false_iff,decide_eq_false_iff_not] at h
 have hn:m.funcs.length≤40:=by omega
 refine ⟨hn,fun f hf=>?_⟩
 have h1:=h.1
 rw [List.take_of_length_le (by omega),List.any_eq_false] at h1
 have h2:=h1 f hf
 simp only [gFun,Bool.not_eq_true,Bool.or_eq_false_iff,decide_eq_false_iff_not,List.any_eq_false] at h2
 refine ⟨by omega,by omega,by omega,fun s hs=>?_⟩
 simpa [gFld] using h2.2 s hs
structure WfX (x:Frm):Prop where
 m:0≤x.mode
 n:x.locals.length≤9223372036854775807
 v :∀l∈x.locals,Wf l.value
def asc (n:Int):Int→List Loc→Bool
 | _,[]=>true
 | last,l::r=>decide (last<l.slot)&&decide (l.slot<n)&&fine l.value&&asc n l.slot r
def fitF (f:Fun) (x:Frm):Bool:=decide (f.slots.length≤16)&&decide (f.name.length≤16)&&decide (0≤x.pos)&&decide (x.pos<f.code.length)&&f.slots.all (fun s=>decide (s.name.length≤16))&&asc f.slots.length (-1) x.locals
def fitb (m:Img) (x:Frm):Bool:=decide (0≤x.func)&&decide (x.mode≤3)&&(match m.funcs[x.func.toNat]? with | none=>false | some f=>fitF f x)
def fitR (m:Img) (x:Frm):Int:=if fitb m x=true then 0 else 8
def modes4:List Bytes:=[[99,97,108,108],[100,101,102,101,114],[112,97,110,105,99],[101,120,105,116]]
def modeW (n:Int):Bytes:=(modes4[n.toNat]?).getD []
def headL (f:Fun) (k:Int) (x:Frm):Bytes:=[35]++num k++[32]++num x.func++[32]++quo f.name++[32,97,116,32]++num x.pos++[32]++modeW x.mode
def slotN (f:Fun) (n:Int):Bytes:=((f.slots[n.toNat]?).getD Fld.zero).name
def locL (f:Fun) (l:Loc):Bytes:=[32,32]++num l.slot++[32]++quo (slotN f l.slot)++[32,61,32]++txt l.value
def frmL (m:Img) (k:Int) (x:Frm):List Bytes:=match m.funcs[x.func.toNat]? with
 | none=>[]
 | some f=>headL f k x::x.locals.map (locL f)
def frR (m:Img) (k:Int) (x:Frm):List Bytes × Int:=if k<0∨170≤k then ([],2) else if fitb m x=true then (frmL m k x,0) else ([],8)
theorem fitb_iff {m:Img} {x:Frm}:fitb m x=true↔0≤x.func∧x.mode≤3∧∃f,m.funcs[x.func.toNat]?=some f∧fitF f x=true:=by
 unfold fitb
 cases h:m.funcs[x.func.toNat]? with
 | none=>simp
 | some f=>simp [and_assoc]
theorem fitF_iff {f:Fun} {x:Frm}:fitF f x=true↔f.slots.length≤16∧f.name.length≤16∧0≤x.pos∧x.pos<f.code.length∧(∀s∈f.slots,s.name.length≤16)∧asc f.slots.length (-1) x.locals=true:=by
 simp [fitF,and_assoc]
theorem asc_mem {n:Int} :∀{l:List Loc} {last:Int},asc n last l=true→∀x∈l,last<x.slot∧x.slot<n∧fine x.value=true
 | [],_,_,x,hx=>by cases hx
 | y::r,last,h,x,hx=>by
  simp only [asc,Bool.and_eq_true,decide_eq_true_eq] at h
  obtain ⟨⟨⟨h1,h2⟩,h3⟩,h4⟩:=h
  rcases List.mem_cons.1 hx with rfl | hx
  ·exact ⟨h1,h2,h3⟩
  ·have:=asc_mem h4 x hx
   exact ⟨by omega,this.2⟩
theorem asc_len {n:Int} :∀{l:List Loc} {last:Int},asc n last l=true→l=[]∨(l.length:Int)<n-last
 | [],_,_=>.inl rfl
 | y::r,last,h=>by
  simp only [asc,Bool.and_eq_true,decide_eq_true_eq] at h
  obtain ⟨⟨⟨h1,h2⟩,h3⟩,h4⟩:=h
  rcases asc_len h4 with rfl | h5
  ·right;simp only [List.length_cons,List.length_nil];omega
  ·right;simp only [List.length_cons];omega
theorem asc_take {n last:Int} :∀(l:List Loc) (i:Nat),asc n last l=true→asc n last (l.take i)=true
 | [],i,h=>by rw [List.take_nil];rfl
 | y::r,0,h=>rfl
 | y::r,i+1,h=>by
  simp only [asc,List.take_succ_cons,Bool.and_eq_true] at h ⊢
  exact ⟨h.1,asc_take r i h.2⟩
def lastS (last:Int):List Loc→Int
 | []=>last
 | l::r=>lastS l.slot r
theorem lastS_snoc :∀(l:List Loc) (last:Int) (x:Loc),lastS last (l++[x])=x.slot
 | [],_,_=>rfl
 | y::r,last,x=>lastS_snoc r y.slot x
theorem asc_snoc {n:Int} :∀(l:List Loc) (last:Int) (x:Loc),asc n last (l++[x])=(asc n last l&&decide (lastS last l<x.slot)&&decide (x.slot<n)&&fine x.value)
 | [],last,x=>by simp [asc,lastS];rfl
 | y::r,last,x=>by
  simp only [List.cons_append,asc,lastS,asc_snoc r y.slot x]
  simp only [Bool.and_assoc]
  rfl
theorem asc_no {n last:Int} {l:List Loc} {i:Nat} (h:asc n last (l.take i)=false):asc n last l=false:=by
 rw [← Bool.not_eq_true] at h ⊢
 exact fun h'=>h (asc_take l i h')
def nameAt (m:Img) (n:Int):Bytes:=((m.funcs[n.toNat]?).getD Fun.zero).name
end Go.AM

/- Parts of the proof. -/
namespace Go.AM
open Go
structure HasF (prog:Prog):Prop extends Has38 prog where
 f79:prog.fn 79=some pf79
 f80:prog.fn 80=some pf80
 f82:prog.fn 82=some pf82
 f86:prog.fn 86=some pf86
 f87:prog.fn 87=some pf87
 f111:prog.fn 111=some pf111
 f112:prog.fn 112=some pf112
 f113:prog.fn 113=some pf113
 f122:prog.fn 122=some pf122
 f123:prog.fn 123=some pf123
 f144:prog.fn 144=some pf144
def idxP {α:Type} (p:α→Bool):List α→Int
 | []=>-1
 | x::r=>if p x=true then 0 else if idxP p r = -1 then -1 else 1+idxP p r
theorem idxP_any {α:Type} (p:α→Bool) :∀l:List α,-1≤idxP p l∧(0≤idxP p l↔l.any p=true)
 | []=>by simp [idxP]
 | x::r=>by
  have:=idxP_any p r
  rw [idxP,List.any_cons]
  cases p x
  ·simp only [Bool.false_eq_true,if_false,Bool.false_or]
   split
   ·exact ⟨by omega,fun h=>absurd h (by decide),fun h=>absurd (this.2.2 h) (by omega)⟩
   ·exact ⟨by omega,fun _=>this.2.1 (by omega),fun h=>by have:=this.2.2 h;omega⟩
  ·simp
theorem loop_idx {α:Type} {P:Int→Prop} {Q:Int→Prop} (p:α→Bool) (l:List α) (h1:Q (-1)→P (l.length:Int)) (h2 :∀(i:Nat) (hi:i<l.length),p l[i]=true→Q (i:Int)→P (i:Int)) (h3 :∀(i:Nat) (hi:i<l.length),p l[i]=false→P ((i+1:Nat):Int)→P (i:Int)) (hQ:Q (idxP p l)):P 0:=by
 have key :∀m i:Nat,i+m=l.length→Q (if idxP p (l.drop i) = -1 then -1 else i+idxP p (l.drop i))→P (i:Int):=by
  intro m
  induction m with
  | zero=>
   intro i hi hq
   have:l.drop i=[]:=List.drop_eq_nil_of_le (by omega)
   rw [this] at hq
   simp only [Nat.add_zero] at hi
   subst hi
   exact h1 (by simpa [idxP] using hq)
  | succ m ih=>
   intro i hi hq
   have hil:i<l.length:=by omega
   rw [List.drop_eq_getElem_cons hil,idxP] at hq
   have hb:=(idxP_any p (l.drop (i+1))).1
   cases hp:p l[i] with
   | true=>
    refine h2 i hil hp ?_
    rw [hp] at hq
    simpa using hq
   | false=>
    refine h3 i hil hp (ih (i+1) (by omega) ?_)
    rw [hp] at hq
    simp only [Bool.false_eq_true,if_false] at hq
    by_cases hn:idxP p (l.drop (i+1)) = -1
    ·rw [if_pos hn] at hq ⊢
     simpa using hq
    ·rw [if_neg hn] at hq ⊢
     rw [if_neg (by omega)] at hq
     rw [show ((i+1:Nat):Int)+idxP p (l.drop (i+1))=(i:Int)+(1+idxP p (l.drop (i+1))) by omega]
     exact hq
 refine key l.length 0 (by omega) ?_
 rw [List.drop_zero]
 split
 ·rename_i h;rw [h] at hQ;exact hQ
 ·simpa using hQ
theorem modes4_get {n:Int} (h0:0≤n) (h1:n≤3):modes4[n.toNat]?=some (modeW n):=by
 have:n=0∨n=1∨n=2∨n=3:=by omega
 rcases this with rfl | rfl | rfl | rfl<;>rfl
theorem modeW_len {n:Int} (h0:0≤n) (h1:n≤3):(modeW n).length≤5:=by
 have:n=0∨n=1∨n=2∨n=3:=by omega
 rcases this with rfl | rfl | rfl | rfl<;>decide
section
variable {prog:Prog} (H:HasF prog)
include H
theorem c111 {n:Int} (h1:-9223372036854775808≤n) (h2:n<9223372036854775808):Pus prog 111 [.i .i64 n] (.s (num n)):=by
 obtain ⟨x,rfl,h⟩:=p111 H.f111 (n0:=n) (K:=fun x=>x=num n) (by
  unfold T111_0
  exact ⟨_,c15 H.toHas03 h1 h2,rfl⟩)
 exact h
theorem c112 {s:Bytes} (hs:s.length≤400):Pus prog 112 [.s s] (.s (quo s)):=by
 obtain ⟨x,rfl,h⟩:=p112 H.f112 (s0:=s) (K:=fun x=>x=quo s) (by
  unfold T112_0
  refine ⟨_,_,c11 H.toHas03 s,?_⟩
  rw [quoR_ok hs])
 exact h
theorem c113:Pus prog 113 [] (.ag (modes4.map AV.s)):=by
 obtain ⟨x,rfl,h⟩:=p113 H.f113 (K:=fun x=>x=modes4) (by unfold T113_0;rfl)
 exact h
theorem c123 (s:Fld):PuN prog 123 [s.av] (fun r=>r=.b (decide (16<s.name.length))):=by
 refine (p123 H.f123 (s0:=s) (K:=fun x=>x=decide (16<s.name.length)) ?_).to ?_
 ·unfold T123_0
  exact decide_eq_decide.2 (by omega)
 ·rintro r ⟨x,rfl,rfl⟩;rfl
theorem c144 {l:List Fld} {f:Nat × List AV} {p:Fld→Bool} (hl:l.length≤9223372036854775807) (hf :∀x∈l,PuN prog f.1 ([x.av]++f.2) (fun r=>r=.b (p x))) (o:Own):PuN prog 144 [.sl o (l.map Fld.row),.fn f.1 f.2] (fun r=>r=.i .i64 (idxP p l)):=by
 refine (p144 H.f144 (s0:=l) (f1:=f) (K:=fun x=>x=idxP p l) ?_ o).to ?_
 ·unfold T144_0
  intro P hP
  refine loop_idx (Q:=fun x=>x=idxP p l) p l (fun h=>hP _ ?_) (fun i hi hp hq=>hP _ ?_) (fun i hi hp ih=>hP _ ?_) rfl
  ·unfold T144_1 T144_2
   exact ⟨fun h'=>absurd h' (by omega),fun _=>h⟩
  ·unfold T144_1
   refine ⟨fun _=>⟨by omega,_,get_at hi,_,hf _ (List.getElem_mem hi),fun _=>hq,fun h'=>?_⟩,fun h'=>absurd h' (by omega)⟩
   rw [hp] at h';cases h'
  ·unfold T144_1
   refine ⟨fun _=>⟨by omega,_,get_at hi,_,hf _ (List.getElem_mem hi),fun h'=>?_,fun _=>?_⟩,fun h'=>absurd h' (by omega)⟩
   ·rw [hp] at h';cases h'
   ·rw [wr_i64 (by omega) (by omega)];exact ih
 ·rintro r ⟨x,rfl,rfl⟩;rfl
theorem c122 {l:List Fld} {f:Nat × List AV} {p:Fld→Bool} (hl:l.length≤9223372036854775807) (hf :∀x∈l,PuN prog f.1 ([x.av]++f.2) (fun r=>r=.b (p x))) (o:Own):PuN prog 122 [.sl o (l.map Fld.row),.fn f.1 f.2] (fun r=>r=.b (l.any p)):=by
 refine (p122 H.f122 (s0:=l) (f1:=f) (K:=fun x=>x=l.any p) ?_ o).to ?_
 ·unfold T122_0
  refine ⟨_,fun o=>c144 H hl hf o,?_⟩
  have:=(idxP_any p l).2
  cases h:l.any p
  ·exact decide_eq_false (by rw [h] at this;intro h';exact absurd (this.1 h') (by decide))
  ·exact decide_eq_true (this.2 h)
 ·rintro r ⟨x,rfl,rfl⟩;rfl
end
end Go.AM

/- Parts of the proof. -/
namespace Go.AM
open Go
theorem fitR_no {m:Img} {x:Frm} (h:fitb m x≠true):(8:Int)=fitR m x:=by unfold fitR;rw [if_neg h]
theorem fitR_yes {m:Img} {x:Frm} (h:fitb m x=true):(0:Int)=fitR m x:=by unfold fitR;rw [if_pos h]
theorem fun_at {m:Img} {n:Int} (h0:0≤n) (h1:n<m.funcs.length) :∃f,m.funcs[n.toNat]?=some f∧f∈m.funcs:=by
 have h:n.toNat<m.funcs.length:=by omega
 exact ⟨m.funcs[n.toNat],List.getElem?_eq_getElem h,List.getElem_mem h⟩
theorem asc_go {n:Int} {l:List Loc} {i:Nat} (hi:i<l.length):asc n (-1) (l.take (i+1))=(asc n (-1) (l.take i)&&decide (lastS (-1) (l.take i)<l[i].slot)&&decide (l[i].slot<n)&&fine l[i].value):=by
 rw [List.take_succ_eq_append_getElem hi,asc_snoc]
section
variable {prog:Prog} (H:HasF prog)
include H
theorem c86 {m:Img} {x:Frm} (hm:OkI m) (hx:WfX x):Pus prog 86 [m.av,x.av] (.i .i64 (fitR m x)):=by
 obtain ⟨y,rfl,h⟩:=p86 H.f86 (m0:=m) (x1:=x) (K:=fun y=>y=fitR m x) (by
  unfold T86_0 T86_1
  have no:¬(0≤x.func∧x.mode≤3∧∃f,m.funcs[x.func.toNat]?=some f∧fitF f x=true)→(8:Int)=fitR m x:=fun h=>fitR_no fun h'=>h (fitb_iff.1 h')
  refine ⟨fun h=>no (by omega),fun h0=>⟨fun h=>no ?_,fun h1=>⟨fun h=>no (by omega),fun h2=>?_⟩⟩⟩
  ·rintro ⟨_,_,f,hf,_⟩
   rw [List.getElem?_eq_none (by omega)] at hf
   cases hf
  obtain ⟨f,hf,hmem⟩:=fun_at (m:=m) (n:=x.func) (by omega) (by omega)
  obtain ⟨q1,q2,q3,q4⟩:=hm.f f hmem
  have no:fitF f x≠true→(8:Int)=fitR m x:=fun h=>no (by
   rintro ⟨_,_,g,hg,h'⟩
   rw [hf] at hg
   cases hg
   exact h h')
  have no:¬(f.slots.length≤16∧f.name.length≤16∧0≤x.pos∧x.pos<f.code.length∧(∀s∈f.slots,s.name.length≤16)∧asc f.slots.length (-1) x.locals=true)→(8:Int)=fitR m x:=fun h=>no fun h'=>h (fitF_iff.1 h')
  unfold T86_2 T86_3
  refine ⟨by omega,f,hf,fun h=>no (by omega),fun k1=>⟨fun h=>no (by omega),fun k2=>⟨fun h=>no (by omega),fun k3=>⟨fun h=>no (by omega),fun k4=>⟨_,fun o=>c122 H (l:=f.slots) (f:=(123,[])) (p:=fun s=>decide (16<s.name.length)) (by omega) (fun s _=>c123 H s) o,fun h=>no ?_,fun h=>?_⟩⟩⟩⟩⟩
  ·rintro ⟨_,_,_,_,h',_⟩
   rw [List.any_eq_true] at h
   obtain ⟨s,hs,h3⟩:=h
   have:=h' s hs
   simp only [decide_eq_true_eq] at h3
   omega
  have hs :∀s∈f.slots,s.name.length≤16:=by
   intro s hs
   rw [List.any_eq_false] at h
   simpa using h s hs
  have no:asc f.slots.length (-1) x.locals≠true→(8:Int)=fitR m x:=fun h=>no (by rintro ⟨_,_,_,_,_,h'⟩;exact h h')
  unfold T86_4
  intro P hP
  have hn:=hx.n
  have go :∀k i:Nat,i+k=x.locals.length→asc f.slots.length (-1) (x.locals.take i)=true→P (lastS (-1) (x.locals.take i)) (i:Int) f:=by
   intro k
   induction k with
   | zero=>
    intro i hi ha
    apply hP
    unfold T86_5 T86_6
    refine ⟨fun h=>absurd h (by omega),fun _=>fitR_yes ?_⟩
    rw [List.take_of_length_le (by omega)] at ha
    exact fitb_iff.2 ⟨by omega,by omega,f,hf,fitF_iff.2 ⟨by omega,by omega,by omega,by omega,hs,ha⟩⟩
   | succ k ih=>
    intro i hi ha
    have hil:i<x.locals.length:=by omega
    have e:=asc_go (n:=f.slots.length) hil
    have no:asc f.slots.length (-1) (x.locals.take (i+1))=false→(8:Int)=fitR m x:=fun h=>no (by rw [asc_no h];decide)
    rw [ha,Bool.true_and] at e
    apply hP
    unfold T86_5
    refine ⟨fun _=>⟨by omega,_,get_at hil,fun h=>no ?_,fun h3=>⟨fun h=>no ?_,fun h4=>⟨_,c76 H.toHas38 (hx.v _ (List.getElem_mem hil)),fun h=>no ?_,fun h5=>?_⟩⟩⟩,fun h=>absurd (show (i:Int)<x.locals.length by omega) h⟩
    ·rw [e,decide_eq_false (by omega)];rfl
    ·rw [e,decide_eq_false (p:=x.locals[i].slot<_) (by omega)];simp
    ·rw [e,show fine x.locals[i].value=false by rw [← Bool.not_eq_true];exact fun h'=>h (chk_fine.2 h')];simp
    ·rw [wr_i64 (by omega) (by omega)]
     have h6:=chk_fine.1 (Decidable.not_not.1 h5)
     have:=ih (i+1) (by omega) (by rw [e,h6,decide_eq_true (by omega),decide_eq_true (by omega)];rfl)
     rw [List.take_succ_eq_append_getElem hil,lastS_snoc] at this
     exact this
  exact go x.locals.length 0 (by omega) rfl)
 exact h
theorem c87 {m:Img} {x:Frm} (hm:OkI m) (hx:WfX x):Pus prog 87 [m.av,x.av] (.i .i64 (fitR m x)):=by
 obtain ⟨y,rfl,h⟩:=p87 H.f87 (m0:=m) (x1:=x) (K:=fun y=>y=fitR m x) (by
  unfold T87_0 T87_1
  have no:¬(0≤x.func∧x.mode≤3∧∃f,m.funcs[x.func.toNat]?=some f∧fitF f x=true)→(8:Int)=fitR m x:=fun h=>fitR_no fun h'=>h (fitb_iff.1 h')
  refine ⟨fun h=>no (by omega),fun h0=>⟨fun h=>no ?_,fun h1=>⟨fun h=>no (by omega),fun h2=>?_⟩⟩⟩
  ·rintro ⟨_,_,f,hf,_⟩
   rw [List.getElem?_eq_none (by omega)] at hf
   cases hf
  obtain ⟨f,hf,hmem⟩:=fun_at (m:=m) (n:=x.func) (by omega) (by omega)
  obtain ⟨q1,q2,q3,q4⟩:=hm.f f hmem
  have no:fitF f x≠true→(8:Int)=fitR m x:=fun h=>no (by
   rintro ⟨_,_,g,hg,h'⟩
   rw [hf] at hg
   cases hg
   exact h h')
  have no:¬(f.slots.length≤16∧f.name.length≤16∧0≤x.pos∧x.pos<f.code.length∧(∀s∈f.slots,s.name.length≤16)∧asc f.slots.length (-1) x.locals=true)→(8:Int)=fitR m x:=fun h=>no fun h'=>h (fitF_iff.1 h')
  unfold T87_2 T87_3
  refine ⟨by omega,f,hf,fun h=>no (by omega),fun k1=>⟨fun h=>no (by omega),fun k2=>⟨fun h=>no (by omega),fun k3=>⟨fun h=>no (by omega),fun k4=>?_⟩⟩⟩⟩
  unfold T87_4
  intro P0 hP0
  refine loop_inv0 (P:=fun i=>P0 i x f) f.slots.length (fun i=>∀s∈f.slots.take i,s.name.length≤16) (by simp) (fun hs=>hP0 _ _ _ ?_) fun i hi hI ihP=>hP0 _ _ _ ?_
  ·rw [List.take_length] at hs
   have no:asc f.slots.length (-1) x.locals≠true→(8:Int)=fitR m x:=fun h=>no (by rintro ⟨_,_,_,_,_,h'⟩;exact h h')
   unfold T87_5
   refine ⟨fun h=>absurd h (by omega),fun _=>?_⟩
   unfold T87_6
   intro P hP
   have hn:=hx.n
   have go :∀k i:Nat,i+k=x.locals.length→asc f.slots.length (-1) (x.locals.take i)=true→P (i:Int) x f:=by
    intro k
    induction k with
    | zero=>
     intro i hi ha
     apply hP
     unfold T87_7 T87_8
     refine ⟨fun h=>absurd h (by omega),fun _=>fitR_yes ?_⟩
     rw [List.take_of_length_le (by omega)] at ha
     exact fitb_iff.2 ⟨by omega,by omega,f,hf,fitF_iff.2 ⟨by omega,by omega,by omega,by omega,hs,ha⟩⟩
    | succ k ih=>
     intro i hi ha
     have hil:i<x.locals.length:=by omega
     have e:=asc_go (n:=f.slots.length) hil
     have no:asc f.slots.length (-1) (x.locals.take (i+1))=false→(8:Int)=fitR m x:=fun h=>no (by rw [asc_no h];decide)
     rw [ha,Bool.true_and] at e
     have last:0<i→∃y:Loc,x.locals[i-1]?=some y∧lastS (-1) (x.locals.take i)=y.slot:=by
      intro h0
      have h1:i-1<x.locals.length:=by omega
      refine ⟨x.locals[i-1],List.getElem?_eq_getElem h1,?_⟩
      have:=List.take_succ_eq_append_getElem h1
      rw [show i-1+1=i by omega] at this
      rw [this,lastS_snoc]
     have fin:(lastS (-1) (x.locals.take i)<x.locals[i].slot)→x.locals[i].slot<f.slots.length→∃r:Int,Pus prog 77 [x.locals[i].value.av] (.i .i64 r)∧(r≠0→(8:Int)=fitR m x)∧(¬(r≠0)→P (IntKind.i64.wrap ((i:Int)+1)) x f):=by
      intro h3 h4
      refine ⟨_,c77 H.toHas38 (hx.v _ (List.getElem_mem hil)),fun h=>no ?_,fun h5=>?_⟩
      ·rw [e,show fine x.locals[i].value=false by rw [← Bool.not_eq_true];exact fun h'=>h (chk_fine.2 h')];simp
      ·rw [wr_i64 (by omega) (by omega)]
       have h6:=chk_fine.1 (Decidable.not_not.1 h5)
       exact ih (i+1) (by omega) (by rw [e,h6,decide_eq_true h3,decide_eq_true h4];rfl)
     have low:0<i→0≤lastS (-1) (x.locals.take i):=by
      intro h0
      obtain ⟨y,h1,h2⟩:=last h0
      rw [h2]
      have h3:=asc_mem ha y (by
       rw [List.mem_take_iff_getElem]
       obtain ⟨h4,h5⟩:=List.getElem?_eq_some_iff.1 h1
       exact ⟨i-1,by omega,h5⟩)
      omega
     apply hP
     unfold T87_7
     refine ⟨fun _=>⟨by omega,_,get_at hil,fun h=>no ?_,fun h3=>⟨fun h=>no ?_,fun h4=>⟨fun h5=>?_,fun h5=>fin ?_ (by omega)⟩⟩⟩,fun h=>absurd (show (i:Int)<x.locals.length by omega) h⟩
     ·rw [e,decide_eq_false ?_];· rfl
      by_cases h0:0<i
      ·have:=low h0;omega
      ·have:i=0:=by omega
       subst this
       show ¬((-1:Int)<_)
       omega
     ·rw [e,decide_eq_false (p:=x.locals[i].slot<_) (by omega)];simp
     ·obtain ⟨y,h6,h7⟩:=last (by omega)
      have hw:IntKind.i64.wrap ((i:Int)-1)=((i-1:Nat):Int):=by rw [wr_i64 (by omega) (by omega)];omega
      rw [hw]
      refine ⟨by omega,y,by rw [toNat_cast];exact h6,fun h=>no ?_,fun h=>fin (by omega) (by omega)⟩
      rw [e,decide_eq_false (by omega)];rfl
     ·have:i=0:=by omega
      subst this
      show (-1:Int)<_
      omega
   exact go x.locals.length 0 (by omega) rfl
  ·unfold T87_5
   refine ⟨fun _=>⟨by omega,_,get_at hi,fun h=>no ?_,fun h=>?_⟩,fun h=>absurd (show (i:Int)<f.slots.length by omega) h⟩
   ·rintro ⟨_,_,_,_,h',_⟩
    have:=h' _ (List.getElem_mem hi)
    omega
   ·rw [wr_i64 (by omega) (by omega)]
    refine ihP fun s hs=>?_
    rw [List.take_succ_eq_append_getElem hi] at hs
    rcases List.mem_append.1 hs with hs | hs
    ·exact hI s hs
    ·rw [List.mem_singleton.1 hs];omega)
 exact h
end
end Go.AM

/- Parts of the proof. -/
namespace Go.AM
open Go
theorem slot_at {f:Fun} {n:Int} (h0:0≤n) (h1:n<f.slots.length) :∃s,f.slots[n.toNat]?=some s∧s∈f.slots∧slotN f n=s.name:=by
 have h:n.toNat<f.slots.length:=by omega
 refine ⟨f.slots[n.toNat],List.getElem?_eq_getElem h,List.getElem_mem h,?_⟩
 unfold slotN
 rw [List.getElem?_eq_getElem h]
 rfl
theorem map_take_snoc {α β:Type} (g:α→β) {l:List α} {i:Nat} (h:i<l.length):(l.take (i+1)).map g=(l.take i).map g++[g l[i]]:=by
 rw [List.take_succ_eq_append_getElem h,List.map_append]
 rfl
theorem frmL_eq {m:Img} {x:Frm} {f:Fun} (h:m.funcs[x.func.toNat]?=some f) (k:Int):frmL m k x=headL f k x::x.locals.map (locL f):=by
 unfold frmL
 rw [h]
theorem frR_bad {m:Img} {k:Int} {x:Frm} (h:k<0∨170≤k):frR m k x=([],2):=by unfold frR;rw [if_pos h]
theorem frR_no {m:Img} {k:Int} {x:Frm} (h:¬(k<0∨170≤k)) (h1:fitb m x≠true):frR m k x=([],8):=by unfold frR;rw [if_neg h,if_neg h1]
theorem frR_yes {m:Img} {k:Int} {x:Frm} (h:¬(k<0∨170≤k)) (h1:fitb m x=true):frR m k x=(frmL m k x,0):=by unfold frR;rw [if_neg h,if_pos h1]
section
variable {prog:Prog} (H:HasF prog)
include H
theorem c82 {m:Img} {k:Int} {x:Frm} (hm:OkI m) (hx:WfX x):Pus prog 82 [m.av,.i .i64 k,x.av] (.tup [.sl .ext ((frR m k x).1.map rowS),.i .i64 (frR m k x).2]):=by
 obtain ⟨y,z,⟨rfl,rfl⟩,h⟩:=p82 H.f82 (m0:=m) (k1:=k) (x2:=x) (K:=fun y z=>y=(frR m k x).1∧z=(frR m k x).2) (by
  unfold T82_0 T82_1
  refine ⟨fun h=>by rw [frR_bad (.inl h)];exact ⟨rfl,rfl⟩,fun h0=>⟨fun h=>by rw [frR_bad (.inr h)];exact ⟨rfl,rfl⟩,fun h1=>?_⟩⟩
  unfold T82_2
  refine ⟨_,c86 H hm hx,fun h=>?_,fun h=>?_⟩
  ·by_cases hb:fitb m x=true
   ·rw [← fitR_yes hb] at h;exact absurd rfl h
   ·rw [frR_no (by omega) hb,← fitR_no hb];exact ⟨rfl,rfl⟩
  have hb:fitb m x=true:=by
   by_cases hb:fitb m x=true
   ·exact hb
   ·rw [← fitR_no hb] at h;exact absurd (by decide) h
  rw [frR_yes (by omega) hb]
  obtain ⟨f0,f1,f,hf,hF⟩:=fitb_iff.1 hb
  obtain ⟨g1,g2,g3,g4,g5,g6⟩:=fitF_iff.1 hF
  have hmem:=List.mem_of_getElem? hf
  obtain ⟨q1,q2,q3,q4⟩:=hm.f f hmem
  have hn:=hm.n
  have hfl:x.func<m.funcs.length:=by
   have:=(List.getElem?_eq_some_iff.1 hf).1
   omega
  have l1:=num_len k
  have l2:=num_len x.func
  have l3:=num_len x.pos
  have l4:=quo_len f.name
  have l5:=modeW_len hx.m f1
  rw [frmL_eq hf]
  unfold T82_3
  refine ⟨f0,f,hf,?_⟩
  unfold T82_4
  refine ⟨_,c111 H (by omega) (by omega),?_,?_,_,c111 H (by omega) (by omega),?_,?_,_,c112 H (by omega),?_,?_,_,c111 H (by omega) (by omega),?_,?_,_,c113 H,rfl,hx.m,_,modes4_get hx.m f1,?_,fun P hP=>?_⟩
  all_goals try (rw [maxStr_eq];simp only [List.length_append,List.length_cons,List.length_nil];omega)
  have len:=asc_len g6
  have hn2:x.locals.length≤16:=by
   rcases len with h | h
   ·rw [h];exact Nat.zero_le _
   ·omega
  refine loop_up (P:=fun o i=>P o i f) (fun i=>headL f k x::(x.locals.take i).map (locL f)) x.locals.length (hP _ _ _ ?_) fun i hi ih=>hP _ _ _ ?_
  ·unfold T82_5 T82_6
   rw [List.take_length]
   exact ⟨fun h=>absurd h (by omega),fun _=>⟨rfl,rfl⟩⟩
  ·obtain ⟨a1,a2,a3⟩:=asc_mem g6 _ (List.getElem_mem hi)
   obtain ⟨s,b1,b2,b3⟩:=slot_at (f:=f) (n:=x.locals[i].slot) (by omega) (by omega)
   have c1:=num_len x.locals[i].slot
   have c2:=quo_len s.name
   have c3:=q4 s b2
   have c4:=fine_len a3
   unfold T82_5
   refine ⟨fun _=>⟨by omega,_,get_at hi,_,_,c72 H.toHas38 (hx.v _ (List.getElem_mem hi)),fun h=>absurd (chk_fine.2 a3) h,fun _=>?_⟩,fun h=>absurd (show (i:Int)<x.locals.length by omega) h⟩
   rw [if_pos a3]
   refine ⟨_,c111 H (by omega) (by omega),?_,?_,by omega,s,b1,_,c112 H (by omega),?_,?_,?_,⟨?_,?_⟩,?_⟩
   all_goals try (rw [maxStr_eq];simp only [List.length_append,List.length_cons,List.length_nil];omega)
   all_goals try (rw [maxBytes_eq];simp only [List.length_append,List.length_cons,List.length_nil,List.length_map,List.length_take];omega)
   rw [wr_i64 (by omega) (by omega)]
   rw [map_take_snoc (locL f) hi] at ih
   unfold locL at ih ⊢
   rw [b3] at ih
   exact ih)
 exact h
theorem c79 {m:Img} (hn:m.funcs.length≤9223372036854775807):Pus prog 79 [m.av] (.b (greatI m)):=by
 obtain ⟨x,rfl,h⟩:=p79 H.f79 (m0:=m) (K:=fun x=>x=greatI m) (by
  unfold T79_0
  intro P hP
  have fin:(m.funcs.take 41).any gFun=false→T79_6 prog (fun x=>x=greatI m) m:=by
   intro h
   unfold T79_6 greatI
   rw [h,Bool.false_or]
   exact decide_eq_decide.2 (by omega)
  refine loop_inv0 (P:=fun i=>P i m) (min m.funcs.length 41) (fun i=>(m.funcs.take i).any gFun=false) (by simp) (fun hI=>hP _ _ ?_) fun i hi hI ihP=>hP _ _ ?_
  ·unfold T79_1
   refine ⟨fun h=>⟨fun h'=>absurd h' (by omega),fun _=>fin ?_⟩,fun h=>fin ?_⟩
   ·rwa [show min m.funcs.length 41=41 by omega] at hI
   ·rw [show min m.funcs.length 41=m.funcs.length by omega,List.take_length] at hI
    rw [List.any_eq_false] at hI ⊢
    exact fun x hx=>hI x (List.mem_of_mem_take hx)
  ·have hil:i<m.funcs.length:=by omega
   have yes:gFun m.funcs[i]=true→true=greatI m:=by
    intro h
    unfold greatI
    rw [List.any_eq_true.2 ⟨m.funcs[i],by rw [List.mem_take_iff_getElem];exact ⟨i,by omega,rfl⟩,h⟩]
    rfl
   have go:gFun m.funcs[i]=false→P (IntKind.i64.wrap ((i:Int)+1)) m:=by
    intro h
    rw [wr_i64 (by omega) (by omega)]
    exact ihP (by rw [List.take_succ_eq_append_getElem hil,List.any_append,hI];simpa using h)
   unfold T79_1
   refine ⟨fun _=>⟨fun _=>?_,fun h=>absurd (show (i:Int)≤40 by omega) h⟩,fun h=>absurd (show (i:Int)<m.funcs.length by omega) h⟩
   unfold T79_2
   refine ⟨by omega,_,get_at hil,fun h=>yes (by unfold gFun;simp;omega),fun h1=>⟨fun h=>yes (by unfold gFun;simp;omega),fun h2=>⟨fun h=>yes (by unfold gFun;simp;omega),fun h3=>?_⟩⟩⟩
   unfold T79_3
   intro P1 hP1
   refine loop_inv0 (P:=fun i=>P1 i m _) m.funcs[i].slots.length (fun j=>(m.funcs[i].slots.take j).any gFld=false) (by simp) (fun hJ=>hP1 _ _ _ ?_) fun j hj hJ ihJ=>hP1 _ _ _ ?_
   ·unfold T79_4 T79_5
    refine ⟨fun h=>absurd h (by omega),fun _=>go ?_⟩
    rw [List.take_length] at hJ
    unfold gFun
    rw [hJ,decide_eq_false (by omega),decide_eq_false (by omega),decide_eq_false (by omega)]
    rfl
   ·unfold T79_4
    refine ⟨fun _=>⟨by omega,_,get_at hj,fun h=>yes ?_,fun h=>?_⟩,fun h=>absurd (show (j:Int)<m.funcs[i].slots.length by omega) h⟩
    ·unfold gFun
     rw [List.any_eq_true.2 ⟨_,List.getElem_mem hj,by unfold gFld;exact decide_eq_true (by omega)⟩,Bool.or_true]
    ·rw [wr_i64 (by omega) (by omega)]
     refine ihJ ?_
     rw [List.take_succ_eq_append_getElem hj,List.any_append,hJ]
     simp [gFld]
     omega)
 exact h
theorem c80 {x:Frm} (hx:WfX x):Pus prog 80 [x.av] (.b (greatX x)):=by
 obtain ⟨y,rfl,h⟩:=p80 H.f80 (x0:=x) (K:=fun y=>y=greatX x) (by
  unfold T80_0
  intro P hP
  have hn:=hx.n
  have fin:(x.locals.take 21).any (fun l=>greatv l.value)=false→T80_3 prog (fun y=>y=greatX x) x:=by
   intro h
   unfold T80_3 greatX
   rw [h,Bool.false_or]
   exact decide_eq_decide.2 (by omega)
  refine loop_inv0 (P:=fun i=>P i x) (min x.locals.length 21) (fun i=>(x.locals.take i).any (fun l=>greatv l.value)=false) (by simp) (fun hI=>hP _ _ ?_) fun i hi hI ihP=>hP _ _ ?_
  ·unfold T80_1
   refine ⟨fun h=>⟨fun h'=>absurd h' (by omega),fun _=>fin ?_⟩,fun h=>fin ?_⟩
   ·rwa [show min x.locals.length 21=21 by omega] at hI
   ·rw [show min x.locals.length 21=x.locals.length by omega,List.take_length] at hI
    rw [List.any_eq_false] at hI ⊢
    exact fun x hx=>hI x (List.mem_of_mem_take hx)
  ·have hil:i<x.locals.length:=by omega
   unfold T80_1 T80_2
   refine ⟨fun _=>⟨fun _=>⟨by omega,_,get_at hil,_,c71 H.toHas38 (hx.v _ (List.getElem_mem hil)),fun h=>?_,fun h=>?_⟩,fun h=>absurd (show (i:Int)≤20 by omega) h⟩,fun h=>absurd (show (i:Int)<x.locals.length by omega) h⟩
   ·unfold greatX
    rw [List.any_eq_true.2 ⟨x.locals[i],by rw [List.mem_take_iff_getElem];exact ⟨i,by omega,rfl⟩,h⟩]
    rfl
   ·rw [wr_i64 (by omega) (by omega)]
    exact ihP (by rw [List.take_succ_eq_append_getElem hil,List.any_append,hI];simpa using h))
 exact h
end
end Go.AM

/- Parts of the proof. -/
namespace Go.AM
open Go
structure HasG (prog:Prog):Prop extends HasF prog
section
variable {prog:Prog} (H:HasG prog)
include H
end
end Go.AM

/- Parts of the proof. -/
namespace Go.AM
open Go
section
variable {prog:Prog} (H:HasG prog)
include H
end
end Go.AM

/- Parts of the proof. -/
namespace Go.AM
open Go
section
variable {prog:Prog} (H:HasG prog)
include H
end
end Go.AM

/- Parts of the proof. -/
namespace Go.AM
open Go
def nameOk (m:Img) (n:Int):Bool:=match m.funcs[n.toNat]? with
 | none=>false
 | some f=>decide (f.name.length≤16)
def callD (m:Img) (many:Int) (d:Dfr):Bool:=decide (0≤d.frame)&&decide (d.frame<many)&&decide (0≤d.func)&&nameOk m d.func&&(if d.hasArg=true then decide (d.arg.kind=1∨d.arg.kind=2∨d.arg.kind=4)&&fine d.arg else isZ d.arg)
def goesR (m:Img) (x:Rou):Bool:=if x.status=3 then decide (x.frames.length=0)&&decide (x.defers.length=0)&&decide (x.panics.length=0)&&decide (x.key=0)
 else decide (x.status=2∨(x.status=1∧x.key=0))&&decide (1≤x.frames.length∧x.frames.length≤170)&&decide (x.defers.length≤410)&&decide (chainR x.panics=0)&&x.frames.all (fitb m)&&x.defers.all (callD m x.frames.length)
def fitS (m:Img) (s:Sta):Bool:=decide (1≤s.outcome∧s.outcome≤8)&&decide (0≤s.steps∧s.steps≤5000)&&decide (s.routines.length≤16)&&decide (-1≤s.failing∧s.failing<s.routines.length)&&s.routines.all (goesR m)
structure WfR (x:Rou):Prop where
 st:0≤x.status
 k:-9223372036854775808≤x.key∧x.key<9223372036854775808
 f :∀y∈x.frames,WfX y
 d :∀y∈x.defers,Wf y.arg
 p :∀y∈x.panics,WfP y
 fl:x.frames.length≤1000000000000000000
 dl:x.defers.length≤1000000000000000000
 pl:x.panics.length≤1000000000000000000
structure WfR0 (x:Rou):Prop where
 st:0≤x.status
 k:-9223372036854775808≤x.key∧x.key<9223372036854775808
 f :∀y∈x.frames,WfX y
 d :∀y∈x.defers,Wf y.arg
 p :∀y∈x.panics,WfP y
 fl:x.frames.length≤9223372036854775807
 dl:x.defers.length≤9223372036854775807
 pl:x.panics.length≤9223372036854775807
structure WfS0 (s:Sta):Prop where
 o:0≤s.outcome
 r :∀x∈s.routines,WfR0 x
 n:s.routines.length≤9223372036854775807
structure WfS (s:Sta):Prop where
 o:0≤s.outcome
 r :∀x∈s.routines,WfR x
 n:s.routines.length≤9223372036854775807
def defL (m:Img) (d:Dfr):Bytes:=[100,101,102,101,114,32]++num d.frame++[32]++num d.func++[32]++quo (nameAt m d.func)++(if d.hasArg=true then [32,119,105,116,104,32]++txt d.arg else [])
def frmsL (m:Img):Nat→List Frm→List Bytes
 | _,[]=>[]
 | i,x::r=>frmL m i x++frmsL m (i+1) r
def partsL (m:Img) (x:Rou):List Bytes:=frmsL m 0 x.frames++x.defers.map (defL m)++x.panics.map shown
def statL (x:Rou):Bytes:=if x.status=1 then [114,101,97,100,121] else if x.status=3 then [100,111,110,101] else [98,108,111,99,107,101,100,32]++num x.key
def headR (g:Int) (x:Rou):Bytes:=[103,111,114,111,117,116,105,110,101,32]++num g++[58,32]++statL x
def sp2 (s:Bytes):Bytes:=[32,32]++s
def linR (m:Img) (g:Int) (x:Rou):List Bytes:=headR g x::(partsL m x).map sp2
def rouR (m:Img) (g:Int) (x:Rou):List Bytes × Int:=if g<0∨16≤g then ([],2) else if goesR m x=true then (linR m g x,0) else ([],8)
def greatR (x:Rou):Bool:=decide (12<x.frames.length)||decide (12<x.defers.length)||decide (20<x.panics.length)||greatC x.panics||x.frames.any greatX||x.defers.any (fun d=>greatv d.arg)
def greatS (s:Sta):Bool:=(s.routines.take 21).any greatR||decide (20<s.routines.length)
theorem WfR.of {x:Rou} (h:WfR0 x) (hg:greatR x=false):WfR x:=by
 unfold greatR at hg
 simp only [Bool.or_eq_false_iff,decide_eq_false_iff_not] at hg
 obtain ⟨⟨⟨⟨⟨h1,h2⟩,h3⟩,_⟩,_⟩,_⟩:=hg
 exact ⟨h.st,h.k,h.f,h.d,h.p,by omega,by omega,by omega⟩
theorem WfS.of {s:Sta} (h:WfS0 s) (hg:greatS s=false):WfS s:=by
 unfold greatS at hg
 simp only [Bool.or_eq_false_iff,decide_eq_false_iff_not] at hg
 obtain ⟨h1,h2⟩:=hg
 rw [List.take_of_length_le (by omega),List.any_eq_false] at h1
 exact ⟨h.o,fun x hx=>WfR.of (h.r x hx) (by simpa using h1 x hx),h.n⟩
end Go.AM

/- Parts of the proof. -/
namespace Go.AM
open Go
def idxT {α:Type} (f:Nat→α→List Bytes):Nat→List α→List Bytes
 | _,[]=>[]
 | i,x::r=>f i x++idxT f (i+1) r
theorem idxT_append {α:Type} (f:Nat→α→List Bytes) :∀(a b:List α) (i:Nat),idxT f i (a++b)=idxT f i a++idxT f (i+a.length) b
 | [],b,i=>by simp [idxT]
 | x::a,b,i=>by
  rw [List.cons_append,idxT,idxT,idxT_append f a b (i+1),List.append_assoc,List.length_cons,show i+1+a.length=i+(a.length+1) by omega]
theorem idxT_take {α:Type} (f:Nat→α→List Bytes) {l:List α} {i:Nat} (hi:i<l.length):idxT f 0 (l.take (i+1))=idxT f 0 (l.take i)++f i l[i]:=by
 rw [List.take_succ_eq_append_getElem hi,idxT_append,List.length_take,Nat.min_eq_left (Nat.le_of_lt hi)]
 simp [idxT]
theorem idxT_le {α:Type} (f:Nat→α→List Bytes) (l:List α) (i:Nat):(idxT f 0 (l.take i)).length≤(idxT f 0 l).length:=by
 have:=idxT_append f (l.take i) (l.drop i) 0
 rw [List.take_append_drop] at this
 rw [this,List.length_append]
 omega
theorem idxT_len {α:Type} {f:Nat→α→List Bytes} {c:Nat} :∀{l:List α} {i:Nat},(∀j,∀x∈l,(f j x).length≤c)→(idxT f i l).length≤l.length*c
 | [],i,_=>by simp [idxT]
 | x::l,i,h=>by
  have h1:=h i x List.mem_cons_self
  have h2:=idxT_len (l:=l) (i:=i+1) fun j y hy=>h j y (List.mem_cons_of_mem _ hy)
  rw [idxT,List.length_append,List.length_cons,Nat.succ_mul]
  omega
def inL (m:Img) (name:Bytes) (g k:Nat) (x:Frm):List Bytes:=if nameAt m x.func=name then [num g++[32]++num k++[32,97,116,32]++num x.pos] else []
def slotAt (m:Img) (x:Frm) (l:Loc):Bytes:=slotN ((m.funcs[x.func.toNat]?).getD Fun.zero) l.slot
def slL (m:Img) (name:Bytes) (g k:Nat) (x:Frm) (l:Loc):List Bytes:=if slotAt m x l=name then [num g++[32]++num k++[32]++num l.slot++[32,61,32]++txt l.value] else []
def slotL (m:Img) (name:Bytes) (g k:Nat) (x:Frm):List Bytes:=idxT (fun _ l=>slL m name g k x l) 0 x.locals
def eachL (h:Nat→Nat→Frm→List Bytes) (s:Sta):List Bytes:=idxT (fun g x=>idxT (h g) 0 x.frames) 0 s.routines
def headsL (s:Sta):List Bytes:=idxT (fun g x=>[headR g x]) 0 s.routines
def wtL (key:Int) (g:Nat) (x:Rou):List Bytes:=if x.status=2∧x.key=key then [[103,111,114,111,117,116,105,110,101,32]++num g] else []
def waitsL (key:Int) (s:Sta):List Bytes:=idxT (wtL key) 0 s.routines
def Dsk.add (m:Dsk) (l:List Bytes):Dsk:=⟨m.image,m.state,m.query,m.out++l⟩
theorem Dsk.add_nil (m:Dsk):m.add []=m:=by unfold Dsk.add;rw [List.append_nil]
theorem Dsk.add_add (m:Dsk) (a b:List Bytes):(m.add a).add b=m.add (a++b):=by unfold Dsk.add;simp
theorem loop_out {α:Type} {P:Int→Dsk→Prop} (m:Dsk) (l:List α) (f:Nat→α→List Bytes) (h1:P (l.length:Int) (m.add (idxT f 0 l)))
  (h2 :∀(i:Nat) (hi:i<l.length) (a:List Bytes),(a++f i l[i]).length≤(idxT f 0 l).length→P ((i+1:Nat):Int) ((m.add a).add (f i l[i]))→P (i:Int) (m.add a)):P 0 m:=by
 have:=loop_inv (P:=fun b i=>P i b) (fun i=>m.add (idxT f 0 (l.take i))) l.length (fun _=>True) trivial (fun _=>by rw [List.take_length];exact h1) fun i hi _ next=>h2 i hi _ (by rw [← idxT_take f hi];exact idxT_le f l _) (by
  rw [Dsk.add_add,← idxT_take f hi]
  exact next trivial)
 simpa [idxT,Dsk.add_nil] using this
def prtL (m:Img) (q:Qry) (k:Nat) (x:Frm):List Bytes:=if q.kind=2 then (frmL m k x).take 1 else if q.kind=3∧q.k=k then (frmL m k x).drop 1 else []
def tailL (m:Img) (q:Qry) (x:Rou):List Bytes:=if q.kind=4 then x.defers.map (defL m) else if q.kind=5 then x.panics.map shown else []
def partL (m:Img) (q:Qry) (x:Rou):List Bytes:=idxT (prtL m q) 0 x.frames++tailL m q x
def partR (m:Img) (s:Sta) (q:Qry):List Bytes × Int:=match s.routines[q.g.toNat]? with
 | none=>([],6)
 | some x=>if q.kind=3∧(x.frames.length:Int)≤q.k then ([],6) else (partL m q x,0)
theorem idxT_sp2 :∀(l:List Bytes) (i:Nat),idxT (fun _ (s:Bytes)=>[s.drop 2]) i (l.map sp2)=l
 | [],_=>rfl
 | s::l,i=>by
  rw [List.map_cons,idxT,idxT_sp2 l (i+1)]
  rfl
theorem frm_shape {m:Img} {x:Frm} (h:fitb m x=true) (k:Int) :∃a l,frmL m k x=a::l∧l.length=x.locals.length:=by
 obtain ⟨_,_,f,hf,_⟩:=fitb_iff.1 h
 refine ⟨headL f k x,x.locals.map (locL f),?_,List.length_map _⟩
 unfold frmL
 rw [hf]
def ansL (m:Img) (s:Sta) (q:Qry):List Bytes × Int:=
 if q.kind=1 then (headsL s,0) else if q.kind=6 then (waitsL q.key s,0) else if q.kind=7 then (eachL (inL m q.name) s,0) else if q.kind=8 then (eachL (slotL m q.name) s,0) else partR m s q
def ansR (m:Img) (s:Sta) (q:Qry):List Bytes × Int:=if okQ q=true then (if fitS m s=true then ansL m s q else ([],8)) else ([],8)
def askR (m:Img) (s:Sta) (t:Bytes):List Bytes × Int:=if (rdTQ t).2=0 then ansR m s (rdTQ t).1 else ([],(rdTQ t).2)
theorem partR_out {m:Img} {s:Sta} {q:Qry}:(partR m s q).2=0∨(partR m s q).1=[]:=by
 unfold partR
 split
 ·exact .inr rfl
 ·split
  ·exact .inr rfl
  ·exact .inl rfl
end Go.AM

/- Parts of the proof. -/
namespace Go.AM
open Go
structure HasT (prog:Prog):Prop extends HasQ prog,HasF prog where
 f203:prog.fn 203=some pf203
 f204:prog.fn 204=some pf204
 f207:prog.fn 207=some pf207
 f213:prog.fn 213=some pf213
 f214:prog.fn 214=some pf214
 f216:prog.fn 216=some pf216
 f219:prog.fn 219=some pf219
 f220:prog.fn 220=some pf220
 f221:prog.fn 221=some pf221
 f224:prog.fn 224=some pf224
 f225:prog.fn 225=some pf225
 f227:prog.fn 227=some pf227
 f228:prog.fn 228=some pf228
 f229:prog.fn 229=some pf229
 f230:prog.fn 230=some pf230
 f231:prog.fn 231=some pf231
 f232:prog.fn 232=some pf232
 f233:prog.fn 233=some pf233
 f234:prog.fn 234=some pf234
 f235:prog.fn 235=some pf235
 f236:prog.fn 236=some pf236
 f237:prog.fn 237=some pf237
 f238:prog.fn 238=some pf238
 f239:prog.fn 239=some pf239
section
variable {prog:Prog} (H:HasT prog)
include H
theorem c216 {n:Int} (h1:-9223372036854775808≤n) (h2:n<9223372036854775808):Pus prog 216 [.i .i64 n] (.s (num n)):=by
 obtain ⟨x,rfl,h⟩:=p216 H.f216 (n0:=n) (K:=fun x=>x=num n) (by
  unfold T216_0
  exact ⟨_,c15 H.toHas03 h1 h2,rfl⟩)
 exact h
theorem c236 {l:List Rou} {f:Nat × List AV} {p:Rou→Bool} (hl:l.length≤9223372036854775807) (hf :∀x∈l,PuN prog f.1 ([x.av]++f.2) (fun r=>r=.b (p x))) (o:Own):PuN prog 236 [.sl o (l.map Rou.row),.fn f.1 f.2] (fun r=>r=.i .i64 (idxP p l)):=by
 refine (p236 H.f236 (s0:=l) (f1:=f) (K:=fun x=>x=idxP p l) ?_ o).to ?_
 ·unfold T236_0
  intro P hP
  refine loop_idx (Q:=fun x=>x=idxP p l) p l (fun h=>hP _ ?_) (fun i hi hp hq=>hP _ ?_) (fun i hi hp ih=>hP _ ?_) rfl
  ·unfold T236_1 T236_2
   exact ⟨fun h'=>absurd h' (by omega),fun _=>h⟩
  ·unfold T236_1
   refine ⟨fun _=>⟨by omega,_,get_at hi,_,hf _ (List.getElem_mem hi),fun _=>hq,fun h'=>?_⟩,fun h'=>absurd h' (by omega)⟩
   rw [hp] at h';cases h'
  ·unfold T236_1
   refine ⟨fun _=>⟨by omega,_,get_at hi,_,hf _ (List.getElem_mem hi),fun h'=>?_,fun _=>?_⟩,fun h'=>absurd h' (by omega)⟩
   ·rw [hp] at h';cases h'
   ·rw [wr_i64 (by omega) (by omega)];exact ih
 ·rintro r ⟨x,rfl,rfl⟩;rfl
theorem c224 {l:List Rou} {f:Nat × List AV} {p:Rou→Bool} (hl:l.length≤9223372036854775807) (hf :∀x∈l,PuN prog f.1 ([x.av]++f.2) (fun r=>r=.b (p x))) (o:Own):PuN prog 224 [.sl o (l.map Rou.row),.fn f.1 f.2] (fun r=>r=.b (l.any p)):=by
 refine (p224 H.f224 (s0:=l) (f1:=f) (K:=fun x=>x=l.any p) ?_ o).to ?_
 ·unfold T224_0
  refine ⟨_,fun o=>c236 H hl hf o,?_⟩
  have:=(idxP_any p l).2
  cases h:l.any p
  ·exact decide_eq_false (by rw [h] at this;intro h';exact absurd (this.1 h') (by decide))
  ·exact decide_eq_true (this.2 h)
 ·rintro r ⟨x,rfl,rfl⟩;rfl
theorem c237 {l:List Frm} {f:Nat × List AV} {p:Frm→Bool} (hl:l.length≤9223372036854775807) (hf :∀x∈l,PuN prog f.1 ([x.av]++f.2) (fun r=>r=.b (p x))) (o:Own):PuN prog 237 [.sl o (l.map Frm.row),.fn f.1 f.2] (fun r=>r=.i .i64 (idxP p l)):=by
 refine (p237 H.f237 (s0:=l) (f1:=f) (K:=fun x=>x=idxP p l) ?_ o).to ?_
 ·unfold T237_0
  intro P hP
  refine loop_idx (Q:=fun x=>x=idxP p l) p l (fun h=>hP _ ?_) (fun i hi hp hq=>hP _ ?_) (fun i hi hp ih=>hP _ ?_) rfl
  ·unfold T237_1 T237_2
   exact ⟨fun h'=>absurd h' (by omega),fun _=>h⟩
  ·unfold T237_1
   refine ⟨fun _=>⟨by omega,_,get_at hi,_,hf _ (List.getElem_mem hi),fun _=>hq,fun h'=>?_⟩,fun h'=>absurd h' (by omega)⟩
   rw [hp] at h';cases h'
  ·unfold T237_1
   refine ⟨fun _=>⟨by omega,_,get_at hi,_,hf _ (List.getElem_mem hi),fun h'=>?_,fun _=>?_⟩,fun h'=>absurd h' (by omega)⟩
   ·rw [hp] at h';cases h'
   ·rw [wr_i64 (by omega) (by omega)];exact ih
 ·rintro r ⟨x,rfl,rfl⟩;rfl
theorem c227 {l:List Frm} {f:Nat × List AV} {p:Frm→Bool} (hl:l.length≤9223372036854775807) (hf :∀x∈l,PuN prog f.1 ([x.av]++f.2) (fun r=>r=.b (p x))) (o:Own):PuN prog 227 [.sl o (l.map Frm.row),.fn f.1 f.2] (fun r=>r=.b (l.any p)):=by
 refine (p227 H.f227 (s0:=l) (f1:=f) (K:=fun x=>x=l.any p) ?_ o).to ?_
 ·unfold T227_0
  refine ⟨_,fun o=>c237 H hl hf o,?_⟩
  have:=(idxP_any p l).2
  cases h:l.any p
  ·exact decide_eq_false (by rw [h] at this;intro h';exact absurd (this.1 h') (by decide))
  ·exact decide_eq_true (this.2 h)
 ·rintro r ⟨x,rfl,rfl⟩;rfl
theorem c238 {l:List Dfr} {f:Nat × List AV} {p:Dfr→Bool} (hl:l.length≤9223372036854775807) (hf :∀x∈l,PuN prog f.1 ([x.av]++f.2) (fun r=>r=.b (p x))) (o:Own):PuN prog 238 [.sl o (l.map Dfr.row),.fn f.1 f.2] (fun r=>r=.i .i64 (idxP p l)):=by
 refine (p238 H.f238 (s0:=l) (f1:=f) (K:=fun x=>x=idxP p l) ?_ o).to ?_
 ·unfold T238_0
  intro P hP
  refine loop_idx (Q:=fun x=>x=idxP p l) p l (fun h=>hP _ ?_) (fun i hi hp hq=>hP _ ?_) (fun i hi hp ih=>hP _ ?_) rfl
  ·unfold T238_1 T238_2
   exact ⟨fun h'=>absurd h' (by omega),fun _=>h⟩
  ·unfold T238_1
   refine ⟨fun _=>⟨by omega,_,get_at hi,_,hf _ (List.getElem_mem hi),fun _=>hq,fun h'=>?_⟩,fun h'=>absurd h' (by omega)⟩
   rw [hp] at h';cases h'
  ·unfold T238_1
   refine ⟨fun _=>⟨by omega,_,get_at hi,_,hf _ (List.getElem_mem hi),fun h'=>?_,fun _=>?_⟩,fun h'=>absurd h' (by omega)⟩
   ·rw [hp] at h';cases h'
   ·rw [wr_i64 (by omega) (by omega)];exact ih
 ·rintro r ⟨x,rfl,rfl⟩;rfl
theorem c229 {l:List Dfr} {f:Nat × List AV} {p:Dfr→Bool} (hl:l.length≤9223372036854775807) (hf :∀x∈l,PuN prog f.1 ([x.av]++f.2) (fun r=>r=.b (p x))) (o:Own):PuN prog 229 [.sl o (l.map Dfr.row),.fn f.1 f.2] (fun r=>r=.b (l.any p)):=by
 refine (p229 H.f229 (s0:=l) (f1:=f) (K:=fun x=>x=l.any p) ?_ o).to ?_
 ·unfold T229_0
  refine ⟨_,fun o=>c238 H hl hf o,?_⟩
  have:=(idxP_any p l).2
  cases h:l.any p
  ·exact decide_eq_false (by rw [h] at this;intro h';exact absurd (this.1 h') (by decide))
  ·exact decide_eq_true (this.2 h)
 ·rintro r ⟨x,rfl,rfl⟩;rfl
theorem c239 {l:List Pan} {f:Nat × List AV} {p:Pan→Bool} (hl:l.length≤9223372036854775807) (hf :∀x∈l,PuN prog f.1 ([x.av]++f.2) (fun r=>r=.b (p x))) (o:Own):PuN prog 239 [.sl o (l.map Pan.row),.fn f.1 f.2] (fun r=>r=.i .i64 (idxP p l)):=by
 refine (p239 H.f239 (s0:=l) (f1:=f) (K:=fun x=>x=idxP p l) ?_ o).to ?_
 ·unfold T239_0
  intro P hP
  refine loop_idx (Q:=fun x=>x=idxP p l) p l (fun h=>hP _ ?_) (fun i hi hp hq=>hP _ ?_) (fun i hi hp ih=>hP _ ?_) rfl
  ·unfold T239_1 T239_2
   exact ⟨fun h'=>absurd h' (by omega),fun _=>h⟩
  ·unfold T239_1
   refine ⟨fun _=>⟨by omega,_,get_at hi,_,hf _ (List.getElem_mem hi),fun _=>hq,fun h'=>?_⟩,fun h'=>absurd h' (by omega)⟩
   rw [hp] at h';cases h'
  ·unfold T239_1
   refine ⟨fun _=>⟨by omega,_,get_at hi,_,hf _ (List.getElem_mem hi),fun h'=>?_,fun _=>?_⟩,fun h'=>absurd h' (by omega)⟩
   ·rw [hp] at h';cases h'
   ·rw [wr_i64 (by omega) (by omega)];exact ih
 ·rintro r ⟨x,rfl,rfl⟩;rfl
theorem c232 {l:List Pan} {f:Nat × List AV} {p:Pan→Bool} (hl:l.length≤9223372036854775807) (hf :∀x∈l,PuN prog f.1 ([x.av]++f.2) (fun r=>r=.b (p x))) (o:Own):PuN prog 232 [.sl o (l.map Pan.row),.fn f.1 f.2] (fun r=>r=.b (l.any p)):=by
 refine (p232 H.f232 (s0:=l) (f1:=f) (K:=fun x=>x=l.any p) ?_ o).to ?_
 ·unfold T232_0
  refine ⟨_,fun o=>c239 H hl hf o,?_⟩
  have:=(idxP_any p l).2
  cases h:l.any p
  ·exact decide_eq_false (by rw [h] at this;intro h';exact absurd (this.1 h') (by decide))
  ·exact decide_eq_true (this.2 h)
 ·rintro r ⟨x,rfl,rfl⟩;rfl
theorem c231 {m:Img} {many:Int} {d:Dfr} (hm:OkI m) (hd:Wf d.arg):Pus prog 231 [m.av,.i .i64 many,d.av] (.b (callD m many d)):=by
 obtain ⟨x,rfl,h⟩:=p231 H.f231 (m0:=m) (frames1:=many) (d2:=d) (K:=fun x=>x=callD m many d) (by
  unfold T231_0 T231_1
  refine ⟨fun h=>?_,fun h0=>⟨fun h=>?_,fun h1=>⟨fun h=>?_,fun h2=>⟨fun h=>?_,fun h3=>?_⟩⟩⟩⟩
  ·unfold callD;rw [decide_eq_false (by omega)];rfl
  ·unfold callD;rw [decide_eq_false (p:=d.frame<many) (by omega)];simp
  ·unfold callD;rw [decide_eq_false (p:=0≤d.func) (by omega)];simp
  ·unfold callD nameOk;rw [List.getElem?_eq_none (by omega)];simp
  obtain ⟨f,hf,hmem⟩:=fun_at (m:=m) (n:=d.func) (by omega) (by omega)
  refine ⟨by omega,f,hf,fun h=>?_,fun h4=>?_⟩
  ·unfold callD nameOk;rw [hf];simp only;rw [decide_eq_false (p:=f.name.length≤16) (by omega)];simp
  have e:callD m many d=(if d.hasArg=true then decide (d.arg.kind=1∨d.arg.kind=2∨d.arg.kind=4)&&fine d.arg else isZ d.arg):=by
   unfold callD nameOk;rw [hf];simp only
   rw [decide_eq_true (by omega),decide_eq_true (by omega),decide_eq_true (by omega),decide_eq_true (by omega)];rfl
  rw [e]
  unfold T231_2
  refine ⟨fun h=>?_,fun h=>?_⟩
  ·have ha:d.hasArg=false:=by simpa using h
   rw [ha]
   simp only [Bool.false_eq_true,if_false]
   unfold isZ
   refine ⟨fun k0=>⟨fun k1=>⟨fun k2=>⟨fun k3=>?_,fun k3=>?_⟩,fun k2=>?_⟩,fun k1=>?_⟩,fun k0=>?_⟩
   ·rw [decide_eq_true k0,decide_eq_true k1,decide_eq_true k2,decide_eq_true (by omega)];rfl
   ·rw [decide_eq_false (p:=d.arg.list.length=0) (by omega)];simp
   ·rw [decide_eq_false k2];simp
   ·rw [decide_eq_false k1];simp
   ·rw [decide_eq_false k0];rfl
  ·have ha:d.hasArg=true:=by simpa using h
   rw [ha,if_pos rfl]
   have fin :∀b:Bool,b=decide (d.arg.kind=1∨d.arg.kind=2∨d.arg.kind=4)→T231_4 prog (fun x=>x=(decide (d.arg.kind=1∨d.arg.kind=2∨d.arg.kind=4)&&fine d.arg)) b d:=fun b hb=>by
    unfold T231_4
    rw [← hb]
    refine ⟨fun h=>⟨_,c76 H.toHas38 hd,?_⟩,fun h=>by rw [h];rfl⟩
    rw [h,Bool.true_and]
    cases hq:fine d.arg
    ·exact decide_eq_false fun h'=>absurd (chk_fine.1 h') (by rw [hq];decide)
    ·exact decide_eq_true (chk_fine.2 hq)
   unfold T231_3
   refine ⟨fun k=>fin _ ?_,fun k=>⟨fun k'=>fin _ ?_,fun k'=>fin _ ?_⟩⟩<;>exact decide_eq_decide.2 (by omega))
 exact h
theorem c235 {m:Img} {many:Int} {d:Dfr} (hm:OkI m) (hd:Wf d.arg):Pus prog 235 [m.av,.i .i64 many,d.av] (.b (callD m many d)):=by
 obtain ⟨x,rfl,h⟩:=p235 H.f235 (m0:=m) (many1:=many) (d2:=d) (K:=fun x=>x=callD m many d) (by
  unfold T235_0 T235_1
  refine ⟨fun h=>?_,fun h0=>⟨fun h=>?_,fun h1=>⟨fun h=>?_,fun h2=>⟨fun h=>?_,fun h3=>?_⟩⟩⟩⟩
  ·unfold callD;rw [decide_eq_false (by omega)];rfl
  ·unfold callD;rw [decide_eq_false (p:=d.frame<many) (by omega)];simp
  ·unfold callD;rw [decide_eq_false (p:=0≤d.func) (by omega)];simp
  ·unfold callD nameOk;rw [List.getElem?_eq_none (by omega)];simp
  obtain ⟨f,hf,hmem⟩:=fun_at (m:=m) (n:=d.func) (by omega) (by omega)
  refine ⟨by omega,f,hf,fun h=>?_,fun h4=>?_⟩
  ·unfold callD nameOk;rw [hf];simp only;rw [decide_eq_false (p:=f.name.length≤16) (by omega)];simp
  have e:callD m many d=(if d.hasArg=true then decide (d.arg.kind=1∨d.arg.kind=2∨d.arg.kind=4)&&fine d.arg else isZ d.arg):=by
   unfold callD nameOk;rw [hf];simp only
   rw [decide_eq_true (by omega),decide_eq_true (by omega),decide_eq_true (by omega),decide_eq_true (by omega)];rfl
  rw [e]
  have fin :∀(p:Prop) [Decidable p],p→(decide p&&fine d.arg)=decide (chkR d.arg=0):=fun p _ hp=>by
   rw [decide_eq_true hp,Bool.true_and]
   cases hq:fine d.arg
   ·exact (decide_eq_false fun h'=>absurd (chk_fine.1 h') (by rw [hq];decide)).symm
   ·exact (decide_eq_true (chk_fine.2 hq)).symm
  unfold T235_2
  refine ⟨fun h=>?_,fun h=>?_⟩
  ·have ha:d.hasArg=false:=by simpa using h
   rw [ha]
   refine ⟨_,c78 H.toHas38 hd vz,?_⟩
   simp only [Bool.false_eq_true,if_false]
   cases hq:isZ d.arg
   ·exact sameV_false.2 fun h'=>absurd (isZ_true.2 h') (by rw [hq];decide)
   ·exact sameV_true.2 (isZ_true.1 hq)
  ·have ha:d.hasArg=true:=by simpa using h
   rw [ha,if_pos rfl]
   refine ⟨fun k=>⟨_,c77 H.toHas38 hd,(fin _ (by omega)).symm⟩,fun k=>⟨fun k'=>⟨_,c77 H.toHas38 hd,(fin _ (by omega)).symm⟩,fun k'=>⟨fun k''=>⟨_,c77 H.toHas38 hd,(fin _ (by omega)).symm⟩,fun k''=>?_⟩⟩⟩
   rw [decide_eq_false (by omega)];rfl)
 exact h
theorem c228 {m:Img} (hm:OkI m) {x:Frm} (hx:WfX x):PuN prog 228 ([x.av]++[.fp m.row]) (fun r=>r=.b (!fitb m x)):=by
 refine (p228 H.f228 (y0:=x) (t1:=m) (K:=fun y=>y=!fitb m x) ?_).to ?_
 ·unfold T228_0
  refine ⟨_,c86 H.toHasF hm hx,?_⟩
  cases hb:fitb m x
  ·rw [← fitR_no (by rw [hb];decide)];rfl
  ·rw [← fitR_yes hb];rfl
 ·rintro r ⟨x,rfl,rfl⟩;rfl
theorem c230 {m:Img} (hm:OkI m) {many:Int} {d:Dfr} (hd:Wf d.arg):PuN prog 230 ([d.av]++[.fp m.row,.fp [.i .i64 many]]) (fun r=>r=.b (!callD m many d)):=by
 refine (p230 H.f230 (y0:=d) (t1:=m) (t2:=many) (K:=fun y=>y=!callD m many d) ?_).to ?_
 ·unfold T230_0
  exact ⟨_,c231 H hm hd,rfl⟩
 ·rintro r ⟨x,rfl,rfl⟩;rfl
theorem c233 {p:Pan} (hp:WfP p):PuN prog 233 ([p.av]++[]) (fun r=>r=.b (!okP p)):=by
 refine (p233 H.f233 (y0:=p) (K:=fun y=>y=!okP p) ?_).to ?_
 ·unfold T233_0
  refine ⟨_,c158 H.toHasO hp,?_⟩
  unfold chkP
  cases hb:okP p<;>rfl
 ·rintro r ⟨x,rfl,rfl⟩;rfl
end
end Go.AM

/- Parts of the proof. -/
namespace Go.AM
open Go
theorem chainR_all {l:List Pan}:decide (chainR l=0)=(decide (l.length≤410)&&l.all okP):=by
 unfold chainR
 by_cases h:410<l.length
 ·rw [if_pos h,decide_eq_false (p:=l.length≤410) (by omega)];rfl
 ·rw [if_neg h,decide_eq_true (p:=l.length≤410) (by omega)]
  cases l.all okP<;>rfl
theorem any_not {α:Type} (p:α→Bool) (l:List α):(!(l.any fun x=>!p x))=l.all p:=by
 rw [List.not_any_eq_all_not]
 simp
def goes0 (m:Img) (x:Rou):Bool:=decide (1≤x.frames.length∧x.frames.length≤170)&&decide (x.defers.length≤410)&&decide (chainR x.panics=0)&&x.frames.all (fitb m)&&x.defers.all (callD m x.frames.length)
theorem goes_3 {m:Img} {x:Rou} (h:x.status=3):goesR m x=(decide (x.frames.length=0)&&decide (x.defers.length=0)&&decide (x.panics.length=0)&&decide (x.key=0)):=by unfold goesR;rw [if_pos h]
theorem goes_2 {m:Img} {x:Rou} (h:x.status=2∨(x.status=1∧x.key=0)):goesR m x=goes0 m x:=by
 unfold goesR goes0
 rw [if_neg (by omega),decide_eq_true h]
 simp
theorem goes_no {m:Img} {x:Rou} (h3:x.status≠3) (h:¬(x.status=2∨(x.status=1∧x.key=0))):goesR m x=false:=by
 unfold goesR
 rw [if_neg h3,decide_eq_false h]
 rfl
theorem goes0_f {m:Img} {x:Rou} (h:¬(1≤x.frames.length∧x.frames.length≤170)):goes0 m x=false:=by unfold goes0;rw [decide_eq_false h];rfl
theorem goes0_d {m:Img} {x:Rou} (h:410<x.defers.length):goes0 m x=false:=by unfold goes0;rw [decide_eq_false (p:=x.defers.length≤410) (by omega)];simp
theorem goes0_p {m:Img} {x:Rou} (h:chainR x.panics≠0):goes0 m x=false:=by unfold goes0;rw [decide_eq_false h];simp
theorem goes0_of {m:Img} {x:Rou} (hf:1≤x.frames.length∧x.frames.length≤170) (hd:x.defers.length≤410) (hp:chainR x.panics=0):goes0 m x=(x.frames.all (fitb m)&&x.defers.all (callD m x.frames.length)):=by
 unfold goes0
 rw [decide_eq_true hf,decide_eq_true hd,decide_eq_true hp]
 rfl
section
variable {prog:Prog} (H:HasT prog)
include H
theorem c219 {m:Img} {x:Rou} (hm:OkI m) (hx:WfR x):Pus prog 219 [m.av,x.av] (.b (goesR m x)):=by
 obtain ⟨y,rfl,h⟩:=p219 H.f219 (m0:=m) (x1:=x) (K:=fun y=>y=goesR m x) (by
  unfold T219_0 T219_1
  have hfl:=hx.fl
  have hdl:=hx.dl
  have hpl:=hx.pl
  have t3:(x.status=2∨(x.status=1∧x.key=0))→T219_3 prog (fun y=>y=goesR m x) m.types m.texts m.funcs x.status x.key x.frames x.defers x.panics (x.defers.length:Int) (x.panics.length:Int) (x.frames.length:Int):=fun hs=>by
   rw [goes_2 hs]
   unfold T219_3
   refine ⟨fun h=>(goes0_f (by omega)).symm,fun h1=>⟨fun h=>(goes0_f (by omega)).symm,fun h2=>⟨fun h=>(goes0_d (by omega)).symm,fun h3=>⟨fun h=>(goes0_p ?_).symm,fun h4=>?_⟩⟩⟩⟩
   ·unfold chainR;rw [if_pos (by omega)];decide
   have e:goes0 m x=(x.frames.all (fitb m)&&(x.defers.all (callD m x.frames.length)&&x.panics.all okP)):=by
    unfold goes0
    rw [decide_eq_true (by omega),decide_eq_true (by omega),chainR_all,decide_eq_true (by omega)]
    simp only [Bool.true_and]
    cases x.panics.all okP<;>simp
   rw [e]
   unfold T219_4
   refine ⟨_,fun o=>c227 H (l:=x.frames) (f:=(228,[.fp m.row])) (p:=fun y=>!fitb m y) (by omega) (fun y hy=>c228 H hm (hx.f y hy)) o,fun h=>?_,fun h=>?_⟩
   ·rw [any_not] at h
    rw [h,Bool.true_and]
    refine ⟨_,fun o=>c229 H (l:=x.defers) (f:=(230,[.fp m.row,.fp [.i .i64 (x.frames.length:Int)]])) (p:=fun y=>!callD m x.frames.length y) (by omega) (fun y hy=>c230 H hm (hx.d y hy)) o,fun h=>?_,fun h=>?_⟩
    ·rw [any_not] at h
     rw [h,Bool.true_and]
     refine ⟨_,fun o=>c232 H (l:=x.panics) (f:=(233,[])) (p:=fun y=>!okP y) (by omega) (fun y hy=>c233 H (hx.p y hy)) o,?_⟩
     rw [any_not]
    ·rw [any_not] at h
     rw [h];rfl
   ·rw [any_not] at h
    rw [h];rfl
  refine ⟨fun h3=>?_,fun h3=>⟨fun h1=>?_,fun h1=>⟨fun h2=>t3 (.inl h2),fun h2=>?_⟩⟩⟩
  ·rw [goes_3 h3]
   rw [wr_i64 (z:=(x.frames.length:Int)+(x.defers.length:Int)) (by omega) (by omega),wr_i64 (by omega) (by omega)]
   refine ⟨fun k=>?_,fun k=>?_⟩
   ·rw [decide_eq_true (p:=x.frames.length=0) (by omega),decide_eq_true (p:=x.defers.length=0) (by omega),decide_eq_true (p:=x.panics.length=0) (by omega)];rfl
   ·by_cases k1:x.frames.length=0
    ·by_cases k2:x.defers.length=0
     ·rw [decide_eq_false (p:=x.panics.length=0) (by omega)];simp
     ·rw [decide_eq_false k2];simp
    ·rw [decide_eq_false k1];simp
  ·unfold T219_2
   refine ⟨fun hk=>(goes_no h3 ?_).symm,fun hk=>t3 (.inr ⟨h1,by omega⟩)⟩
   omega
  ·unfold T219_5
   exact (goes_no h3 (by omega)).symm)
 exact h
theorem c221 {m:Img} {x:Rou} (hm:OkI m) (hx:WfR x):Pus prog 221 [m.av,x.av] (.b (goesR m x)):=by
 obtain ⟨y,rfl,h⟩:=p221 H.f221 (m0:=m) (x1:=x) (K:=fun y=>y=goesR m x) (by
  unfold T221_0 T221_1
  have hfl:=hx.fl
  have hdl:=hx.dl
  have hpl:=hx.pl
  have t3:(x.status=2∨(x.status=1∧x.key=0))→T221_3 prog (fun y=>y=goesR m x) m x:=fun hs=>by
   rw [goes_2 hs]
   unfold T221_3
   refine ⟨fun h=>(goes0_f (by omega)).symm,fun h1=>⟨fun h=>(goes0_f (by omega)).symm,fun h2=>⟨fun h=>(goes0_d (by omega)).symm,fun h3=>⟨_,c163 H.toHasQ hx.p,fun h=>(goes0_p h).symm,fun h4=>?_⟩⟩⟩⟩
   rw [goes0_of (by omega) (by omega) (Decidable.not_not.1 h4)]
   unfold T221_4
   intro P hP
   refine loop_inv0 (P:=fun i=>P i m x) x.frames.length (fun i=>∀y∈x.frames.take i,fitb m y=true) (by simp) (fun hI=>hP _ _ _ ?_) fun i hi hI next=>hP _ _ _ ?_
   ·rw [List.take_length] at hI
    rw [List.all_eq_true.2 hI,Bool.true_and]
    unfold T221_5 T221_6
    refine ⟨fun h=>absurd h (by omega),fun _ P hP=>?_⟩
    refine loop_inv0 (P:=fun i=>P i m x) x.defers.length (fun i=>∀y∈x.defers.take i,callD m x.frames.length y=true) (by simp) (fun hI=>hP _ _ _ ?_) fun i hi hI next=>hP _ _ _ ?_
    ·rw [List.take_length] at hI
     unfold T221_7 T221_8
     exact ⟨fun h=>absurd h (by omega),fun _=>(List.all_eq_true.2 hI).symm⟩
    ·unfold T221_7
     refine ⟨fun _=>⟨by omega,_,get_at hi,_,c235 H hm (hx.d _ (List.getElem_mem hi)),fun h=>?_,fun h=>?_⟩,fun h=>absurd (show (i:Int)<x.defers.length by omega) h⟩
     ·refine (List.all_eq_false.2 ⟨_,List.getElem_mem hi,?_⟩).symm
      simpa using h
     ·rw [wr_i64 (by omega) (by omega)]
      refine next fun y hy=>?_
      rw [List.take_succ_eq_append_getElem hi] at hy
      rcases List.mem_append.1 hy with hy | hy
      ·exact hI y hy
      ·rw [List.mem_singleton.1 hy];simpa using h
   ·unfold T221_5
    refine ⟨fun _=>⟨by omega,_,get_at hi,_,c87 H.toHasF hm (hx.f _ (List.getElem_mem hi)),fun h=>?_,fun h=>?_⟩,fun h=>absurd (show (i:Int)<x.frames.length by omega) h⟩
    ·rw [List.all_eq_false.2 ⟨_,List.getElem_mem hi,?_⟩];rfl
     intro hb;exact h (fitR_yes hb).symm
    ·rw [wr_i64 (by omega) (by omega)]
     refine next fun y hy=>?_
     rw [List.take_succ_eq_append_getElem hi] at hy
     rcases List.mem_append.1 hy with hy | hy
     ·exact hI y hy
     ·rw [List.mem_singleton.1 hy]
      by_cases hb:fitb m x.frames[i]=true
      ·exact hb
      ·exact absurd (fitR_no hb).symm (by rw [Decidable.not_not.1 h];decide)
  refine ⟨fun h3=>?_,fun h3=>?_⟩
  ·rw [goes_3 h3]
   refine ⟨fun k1=>⟨fun k2=>⟨fun k3=>?_,fun k3=>?_⟩,fun k2=>?_⟩,fun k1=>?_⟩
   ·rw [decide_eq_true (p:=x.frames.length=0) (by omega),decide_eq_true (p:=x.defers.length=0) (by omega),decide_eq_true (p:=x.panics.length=0) (by omega)];rfl
   ·rw [decide_eq_false (p:=x.panics.length=0) (by omega)];simp
   ·rw [decide_eq_false (p:=x.defers.length=0) (by omega)];simp
   ·rw [decide_eq_false (p:=x.frames.length=0) (by omega)];simp
  ·unfold T221_2
   refine ⟨fun h2=>⟨fun h1=>(goes_no h3 (by omega)).symm,fun h1=>⟨fun hk=>(goes_no h3 (by omega)).symm,fun hk=>t3 (.inr (by omega))⟩⟩,fun h2=>t3 (.inl (by omega))⟩)
 exact h
theorem c225 {m:Img} (hm:OkI m) {x:Rou} (hx:WfR x):PuN prog 225 ([x.av]++[.fp m.row]) (fun r=>r=.b (!goesR m x)):=by
 refine (p225 H.f225 (x0:=x) (t1:=m) (K:=fun y=>y=!goesR m x) ?_).to ?_
 ·unfold T225_0
  exact ⟨_,c219 H hm hx,rfl⟩
 ·rintro r ⟨x,rfl,rfl⟩;rfl
def fitSR (m:Img) (s:Sta):Int:=if fitS m s=true then 0 else 8
theorem c213 {m:Img} {s:Sta} (hm:OkI m) (hs:WfS s):Pus prog 213 [m.av,s.av] (.i .i64 (fitSR m s)):=by
 obtain ⟨y,rfl,h⟩:=p213 H.f213 (m0:=m) (s1:=s) (K:=fun y=>y=fitSR m s) (by
  unfold T213_0 fitSR fitS
  refine ⟨fun h=>?_,fun h1=>⟨fun h=>?_,fun h2=>⟨fun h=>?_,fun h3=>⟨fun h=>?_,fun h4=>⟨fun h=>?_,fun h5=>⟨fun h=>?_,fun h6=>⟨fun h=>?_,fun h7=>?_⟩⟩⟩⟩⟩⟩⟩
  ·rw [decide_eq_false (by omega)];rfl
  ·rw [decide_eq_false (by omega)];rfl
  ·rw [decide_eq_false (p:=0≤s.steps∧_) (by omega)];simp
  ·rw [decide_eq_false (p:=0≤s.steps∧_) (by omega)];simp
  ·rw [decide_eq_false (p:=s.routines.length≤16) (by omega)];simp
  ·rw [decide_eq_false (p:=-1≤s.failing∧_) (by omega)];simp
  ·rw [decide_eq_false (p:=-1≤s.failing∧_) (by omega)];simp
  rw [decide_eq_true (by omega),decide_eq_true (by omega),decide_eq_true (by omega),decide_eq_true (by omega)]
  simp only [Bool.true_and]
  refine ⟨_,fun o=>c224 H (l:=s.routines) (f:=(225,[.fp m.row])) (p:=fun y=>!goesR m y) hs.n (fun y hy=>c225 H hm (hs.r y hy)) o,fun h=>?_,fun h=>?_⟩
  ·have:=any_not (goesR m) s.routines
   rw [h] at this
   rw [← this];rfl
  ·have:=any_not (goesR m) s.routines
   rw [h] at this
   rw [← this];rfl)
 exact h
theorem c214 {m:Img} {s:Sta} (hm:OkI m) (hs:WfS s):Pus prog 214 [m.av,s.av] (.i .i64 (fitSR m s)):=by
 obtain ⟨y,rfl,h⟩:=p214 H.f214 (m0:=m) (s1:=s) (K:=fun y=>y=fitSR m s) (by
  unfold T214_0 fitSR fitS
  refine ⟨fun h=>?_,fun h1=>⟨fun h=>?_,fun h2=>⟨fun h=>?_,fun h3=>⟨fun h=>?_,fun h4=>⟨fun h=>?_,fun h5=>⟨fun h=>?_,fun h6=>⟨fun h=>?_,fun h7=>?_⟩⟩⟩⟩⟩⟩⟩
  ·rw [decide_eq_false (by omega)];rfl
  ·rw [decide_eq_false (by omega)];rfl
  ·rw [decide_eq_false (p:=0≤s.steps∧_) (by omega)];simp
  ·rw [decide_eq_false (p:=0≤s.steps∧_) (by omega)];simp
  ·rw [decide_eq_false (p:=s.routines.length≤16) (by omega)];simp
  ·rw [decide_eq_false (p:=-1≤s.failing∧_) (by omega)];simp
  ·rw [decide_eq_false (p:=-1≤s.failing∧_) (by omega)];simp
  rw [decide_eq_true (by omega),decide_eq_true (by omega),decide_eq_true (by omega),decide_eq_true (by omega)]
  simp only [Bool.true_and]
  unfold T214_1
  intro P hP
  refine loop_inv0 (P:=fun i=>P i m s) s.routines.length (fun i=>∀y∈s.routines.take i,goesR m y=true) (by simp) (fun hI=>hP _ _ _ ?_) fun i hi hI next=>hP _ _ _ ?_
  ·rw [List.take_length] at hI
   unfold T214_2 T214_3
   exact ⟨fun h=>absurd h (by omega),fun _=>by rw [if_pos (List.all_eq_true.2 hI)]⟩
  ·unfold T214_2
   refine ⟨fun _=>⟨by omega,_,get_at hi,_,c221 H hm (hs.r _ (List.getElem_mem hi)),fun h=>?_,fun h=>?_⟩,fun h=>absurd (show (i:Int)<s.routines.length by omega) h⟩
   ·rw [List.all_eq_false.2 ⟨_,List.getElem_mem hi,by simpa using h⟩];rfl
   ·rw [wr_i64 (by omega) (by omega)]
    refine next fun y hy=>?_
    rw [List.take_succ_eq_append_getElem hi] at hy
    rcases List.mem_append.1 hy with hy | hy
    ·exact hI y hy
    ·rw [List.mem_singleton.1 hy];simpa using h)
 exact h
theorem c204 {x:Rou} (hx:WfR0 x):Pus prog 204 [x.av] (.b (greatR x)):=by
 obtain ⟨y,rfl,h⟩:=p204 H.f204 (x0:=x) (K:=fun y=>y=greatR x) (by
  have hfl:=hx.fl
  have hdl:=hx.dl
  have hpl:=hx.pl
  unfold T204_0 greatR
  refine ⟨fun h=>?_,fun h1=>⟨fun h=>?_,fun h2=>⟨fun h=>?_,fun h3=>⟨_,c162 H.toHasQ hx.p,fun h=>?_,fun h4=>?_⟩⟩⟩⟩
  ·rw [decide_eq_true (by omega)];rfl
  ·rw [decide_eq_true (p:=12<x.defers.length) (by omega)];simp
  ·rw [decide_eq_true (p:=20<x.panics.length) (by omega)];simp
  ·rw [h];simp
  rw [decide_eq_false (by omega),decide_eq_false (by omega),decide_eq_false (by omega),h4]
  simp only [Bool.false_or]
  unfold T204_1
  intro P hP
  refine loop_inv0 (P:=fun i=>P i x) x.frames.length (fun i=>∀y∈x.frames.take i,greatX y=false) (by simp) (fun hI=>hP _ _ ?_) fun i hi hI next=>hP _ _ ?_
  ·rw [List.take_length] at hI
   rw [List.any_eq_false.2 fun y hy=>by rw [hI y hy];decide]
   simp only [Bool.false_or]
   unfold T204_2 T204_3
   refine ⟨fun h=>absurd h (by omega),fun _ P hP=>?_⟩
   refine loop_inv0 (P:=fun i=>P i x) x.defers.length (fun i=>∀y∈x.defers.take i,greatv y.arg=false) (by simp) (fun hI=>hP _ _ ?_) fun i hi hI next=>hP _ _ ?_
   ·rw [List.take_length] at hI
    rw [List.any_eq_false.2 fun y hy=>by rw [hI y hy];decide]
    unfold T204_4 T204_5
    exact ⟨fun h=>absurd h (by omega),fun _=>rfl⟩
   ·unfold T204_4
    refine ⟨fun _=>⟨by omega,_,get_at hi,_,c71 H.toHas38 (hx.d _ (List.getElem_mem hi)),fun h=>?_,fun h=>?_⟩,fun h=>absurd (show (i:Int)<x.defers.length by omega) h⟩
    ·exact (List.any_eq_true.2 ⟨_,List.getElem_mem hi,h⟩).symm
    ·rw [wr_i64 (by omega) (by omega)]
     refine next fun y hy=>?_
     rw [List.take_succ_eq_append_getElem hi] at hy
     rcases List.mem_append.1 hy with hy | hy
     ·exact hI y hy
     ·rw [List.mem_singleton.1 hy];exact h
  ·unfold T204_2
   refine ⟨fun _=>⟨by omega,_,get_at hi,_,c80 H.toHasF (hx.f _ (List.getElem_mem hi)),fun h=>?_,fun h=>?_⟩,fun h=>absurd (show (i:Int)<x.frames.length by omega) h⟩
   ·rw [List.any_eq_true.2 ⟨_,List.getElem_mem hi,h⟩];rfl
   ·rw [wr_i64 (by omega) (by omega)]
    refine next fun y hy=>?_
    rw [List.take_succ_eq_append_getElem hi] at hy
    rcases List.mem_append.1 hy with hy | hy
    ·exact hI y hy
    ·rw [List.mem_singleton.1 hy];exact h)
 exact h
theorem c203 {s:Sta} (hs:WfS0 s):Pus prog 203 [s.av] (.b (greatS s)):=by
 obtain ⟨y,rfl,h⟩:=p203 H.f203 (s0:=s) (K:=fun y=>y=greatS s) (by
  have hn:=hs.n
  unfold T203_0
  intro P hP
  have fin:(s.routines.take 21).any greatR=false→T203_3 prog (fun x=>x=greatS s) s:=by
   intro h
   unfold T203_3 greatS
   rw [h,Bool.false_or]
   exact decide_eq_decide.2 (by omega)
  refine loop_inv0 (P:=fun i=>P i s) (min s.routines.length 21) (fun i=>(s.routines.take i).any greatR=false) (by simp) (fun hI=>hP _ _ ?_) fun i hi hI ihP=>hP _ _ ?_
  ·unfold T203_1
   refine ⟨fun h=>⟨fun h'=>absurd h' (by omega),fun _=>fin ?_⟩,fun h=>fin ?_⟩
   ·rwa [show min s.routines.length 21=21 by omega] at hI
   ·rw [show min s.routines.length 21=s.routines.length by omega,List.take_length] at hI
    rw [List.any_eq_false] at hI ⊢
    exact fun x hx=>hI x (List.mem_of_mem_take hx)
  ·have hil:i<s.routines.length:=by omega
   unfold T203_1
   refine ⟨fun _=>⟨fun _=>?_,fun h=>absurd (show (i:Int)≤20 by omega) h⟩,fun h=>absurd (show (i:Int)<s.routines.length by omega) h⟩
   unfold T203_2
   refine ⟨by omega,_,get_at hil,_,c204 H (hs.r _ (List.getElem_mem hil)),fun h=>?_,fun h=>?_⟩
   ·unfold greatS
    rw [List.any_eq_true.2 ⟨s.routines[i],by rw [List.mem_take_iff_getElem];exact ⟨i,by omega,rfl⟩,h⟩]
    rfl
   ·rw [wr_i64 (by omega) (by omega)]
    exact ihP (by rw [List.take_succ_eq_append_getElem hil,List.any_append,hI];simpa using h))
 exact h
end
end Go.AM
