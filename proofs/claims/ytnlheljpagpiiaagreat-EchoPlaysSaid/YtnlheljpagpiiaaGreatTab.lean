/-
  The types that the functions use, and that the program bears them (by program).
-/
import Derived.Test.YtnlheljpagpiiaaGreatMd
import Derived.Test.YtnlheljpagpiiaaGreatProg
import Derived.KernelRfl
set_option linter.unusedVariables false
set_option maxRecDepth 100000
namespace Go.Proofs.YtnlheljpagpiiaaGreat
def ty2 : TyI := ⟨.int .i64, 1, 8, [.int .i64 0], false⟩
def ty3 : TyI := ⟨.int .i64, 1, 8, [.int .i64 0], false⟩
def ty4 : TyI := ⟨.bool, 1, 1, [.bool false], false⟩
def ty5 : TyI := ⟨.int .u8, 1, 1, [.int .u8 0], false⟩
def ty9 : TyI := ⟨.str, 1, 16, [.string ByteArray.empty], false⟩
def ty22 : TyI := ⟨.int .u64, 1, 8, [.int .u64 0], false⟩
def ty23 : TyI := ⟨.slice 5, 1, 24, [.slice none 0 0], false⟩
def ty25 : TyI := ⟨.struct [(0, 3), (1, 3), (2, 3), (3, 3), (4, 3), (5, 3), (6, 22), (7, 2), (8, 3), (9, 3), (10, 23), (11, 23), (12, 23)], 13, 152, [.int .i64 0, .int .i64 0, .int .i64 0, .int .i64 0, .int .i64 0, .int .i64 0, .int .u64 0, .int .i64 0, .int .i64 0, .int .i64 0, .slice none 0 0, .slice none 0 0, .slice none 0 0], true⟩
def ty26 : TyI := ⟨.int .i64, 1, 8, [.int .i64 0], false⟩
def ty41 : TyI := ⟨.ptr 48, 1, 8, [.pointer none], false⟩
def ty43 : TyI := ⟨.struct [(0, 3), (1, 3), (2, 3), (3, 3), (4, 3), (5, 3), (6, 3), (7, 3), (8, 3), (9, 3)], 10, 80, List.replicate 10 (.int .i64 0), true⟩
def ty45 : TyI := ⟨.struct [(0, 22), (1, 2)], 2, 16, [.int .u64 0, .int .i64 0], true⟩
def ty46 : TyI := ⟨.arr 8 45, 16, 128, [.int .u64 0, .int .i64 0, .int .u64 0, .int .i64 0, .int .u64 0, .int .i64 0, .int .u64 0, .int .i64 0, .int .u64 0, .int .i64 0, .int .u64 0, .int .i64 0, .int .u64 0, .int .i64 0, .int .u64 0, .int .i64 0], true⟩
def ty48 : TyI := ⟨.struct [(0, 43), (10, 23), (11, 3), (12, 22), (13, 22), (14, 46)], 30, 256, [.int .i64 0, .int .i64 0, .int .i64 0, .int .i64 0, .int .i64 0, .int .i64 0, .int .i64 0, .int .i64 0, .int .i64 0, .int .i64 0, .slice none 0 0, .int .i64 0, .int .u64 0, .int .u64 0, .int .u64 0, .int .i64 0, .int .u64 0, .int .i64 0, .int .u64 0, .int .i64 0, .int .u64 0, .int .i64 0, .int .u64 0, .int .i64 0, .int .u64 0, .int .i64 0, .int .u64 0, .int .i64 0, .int .u64 0, .int .i64 0], true⟩
def ty53 : TyI := ⟨.struct [(0, 2), (1, 2)], 2, 16, [.int .i64 0, .int .i64 0], true⟩
def ty55 : TyI := ⟨.struct [(0, 3), (1, 53), (3, 3), (4, 3), (5, 3), (6, 23)], 7, 72, [.int .i64 0, .int .i64 0, .int .i64 0, .int .i64 0, .int .i64 0, .int .i64 0, .slice none 0 0], true⟩
def ty60 : TyI := ⟨.int .u16, 1, 2, [.int .u16 0], false⟩
def ty67 : TyI := ⟨.slice 69, 1, 24, [.slice none 0 0], false⟩
def ty69 : TyI := ⟨.arr 2 68, 2, 2, [.int .i8 0, .int .i8 0], true⟩
def ty68 : TyI := ⟨.int .i8, 1, 1, [.int .i8 0], false⟩
def ty72 : TyI := ⟨.slice 2, 1, 24, [.slice none 0 0], false⟩
def ty73 : TyI := ⟨.ptr 85, 1, 8, [.pointer none], false⟩
def ty79 : TyI := ⟨.struct [(0, 3), (1, 53), (3, 3), (4, 3), (5, 3), (6, 23)], 7, 72, [.int .i64 0, .int .i64 0, .int .i64 0, .int .i64 0, .int .i64 0, .int .i64 0, .slice none 0 0], true⟩
def ty83 : TyI := ⟨.slice 87, 1, 24, [.slice none 0 0], false⟩
def ty87 : TyI := ⟨.struct [(0, 4), (1, 22), (2, 2)], 3, 24, [.bool false, .int .u64 0, .int .i64 0], true⟩
def ty85 : TyI := ⟨.struct [(0, 43), (10, 23), (11, 3), (12, 3), (13, 22), (14, 83)], 15, 152, [.int .i64 0, .int .i64 0, .int .i64 0, .int .i64 0, .int .i64 0, .int .i64 0, .int .i64 0, .int .i64 0, .int .i64 0, .int .i64 0, .slice none 0 0, .int .i64 0, .int .i64 0, .int .u64 0, .slice none 0 0], true⟩
def ty95 : TyI := ⟨.iface, 1, 16, [.nilIface], false⟩
def ty100 : TyI := ⟨.ptr 149, 1, 8, [.pointer none], false⟩
def ty102 : TyI := ⟨.struct [(0, 100)], 1, 8, [.pointer none], true⟩
def ty111 : TyI := ⟨.int .u64, 1, 8, [.int .u64 0], false⟩
def ty130 : TyI := ⟨.struct [(0, 26)], 1, 8, [.int .i64 0], true⟩
def ty131 : TyI := ⟨.arr 5 26, 5, 40, [.int .i64 0, .int .i64 0, .int .i64 0, .int .i64 0, .int .i64 0], true⟩
def ty134 : TyI := ⟨.ptr 136, 1, 8, [.pointer none], false⟩
def ty136 : TyI := ⟨.struct [(0, 23), (1, 3)], 2, 32, [.slice none 0 0, .int .i64 0], true⟩
def ty138 : TyI := ⟨.struct [(0, 134), (1, 4)], 2, 16, [.pointer none, .bool false], true⟩
def ty144 : TyI := ⟨.arr 2 22, 2, 16, [.int .u64 0, .int .u64 0], true⟩
def ty147 : TyI := ⟨.struct [(0, 23), (1, 3), (2, 4)], 3, 40, [.slice none 0 0, .int .i64 0, .bool false], true⟩
def ty149 : TyI := ⟨.struct [(0, 147)], 3, 40, [.slice none 0 0, .int .i64 0, .bool false], true⟩
def ty151 : TyI := ⟨.int .u32, 1, 4, [.int .u32 0], false⟩
def ty155 : TyI := ⟨.ptr 192, 1, 8, [.pointer none], false⟩
def ty158 : TyI := ⟨.struct [(0, 155), (1, 4)], 2, 16, [.pointer none, .bool false], true⟩
def ty161 : TyI := ⟨.slice 22, 1, 24, [.slice none 0 0], false⟩
def ty164 : TyI := ⟨.ptr 201, 1, 8, [.pointer none], false⟩
def ty170 : TyI := ⟨.slice 4, 1, 24, [.slice none 0 0], false⟩
def ty172 : TyI := ⟨.struct [(0, 170)], 1, 24, [.slice none 0 0], true⟩
def ty184 : TyI := ⟨.arr 2 3, 2, 16, [.int .i64 0, .int .i64 0], true⟩
def ty185 : TyI := ⟨.slice 144, 1, 24, [.slice none 0 0], false⟩
def ty189 : TyI := ⟨.struct [(0, 3), (1, 151), (2, 151)], 3, 16, [.int .i64 0, .int .u32 0, .int .u32 0], true⟩
def ty192 : TyI := ⟨.struct [(0, 147), (3, 3)], 4, 48, [.slice none 0 0, .int .i64 0, .bool false, .int .i64 0], true⟩
def ty196 : TyI := ⟨.ptr 236, 1, 8, [.pointer none], false⟩
def ty199 : TyI := ⟨.struct [(0, 196)], 1, 8, [.pointer none], true⟩
def ty201 : TyI := ⟨.struct [(0, 199), (1, 23)], 2, 32, [.pointer none, .slice none 0 0], true⟩
def ty203 : TyI := ⟨.slice 151, 1, 24, [.slice none 0 0], false⟩
def ty218 : TyI := ⟨.slice 95, 1, 24, [.slice none 0 0], false⟩
def ty221 : TyI := ⟨.slice 184, 1, 24, [.slice none 0 0], false⟩
def ty233 : TyI := ⟨.arr 8 151, 8, 32, [.int .u32 0, .int .u32 0, .int .u32 0, .int .u32 0, .int .u32 0, .int .u32 0, .int .u32 0, .int .u32 0], true⟩
def ty236 : TyI := ⟨.struct [(0, 233), (8, 23), (9, 3), (10, 4)], 11, 72, [.int .u32 0, .int .u32 0, .int .u32 0, .int .u32 0, .int .u32 0, .int .u32 0, .int .u32 0, .int .u32 0, .slice none 0 0, .int .i64 0, .bool false], true⟩
def ty237 : TyI := ⟨.arr 64 151, 64, 256, List.replicate 64 (.int .u32 0), true⟩
def ty273 : TyI := ⟨.arr 64 5, 64, 64, List.replicate 64 (.int .u8 0), true⟩
def tab : Tab := ⟨[(2, ty2), (3, ty3), (4, ty4), (5, ty5), (9, ty9), (22, ty22), (23, ty23), (25, ty25), (26, ty26), (41, ty41), (43, ty43), (45, ty45), (46, ty46), (48, ty48), (53, ty53), (55, ty55), (60, ty60), (67, ty67), (69, ty69), (68, ty68), (72, ty72), (73, ty73), (79, ty79), (83, ty83), (87, ty87), (85, ty85), (95, ty95), (100, ty100), (102, ty102), (111, ty111), (130, ty130), (131, ty131), (134, ty134), (136, ty136), (138, ty138), (144, ty144), (147, ty147), (149, ty149), (151, ty151), (155, ty155), (158, ty158), (161, ty161), (164, ty164), (170, ty170), (172, ty172), (184, ty184), (185, ty185), (189, ty189), (192, ty192), (196, ty196), (199, ty199), (201, ty201), (203, ty203), (218, ty218), (221, ty221), (233, ty233), (236, ty236), (237, ty237), (273, ty273)], 181, [(43, 10), (45, 2), (53, 2), (130, 1), (189, 3)], [117]⟩
theorem eq43_ok : EqOK Tryz.prog 43 10 := ⟨by kernel_rfl, by kernel_rfl, by kernel_rfl, by kernel_rfl, by kernel_rfl⟩
theorem eq45_ok : EqOK Tryz.prog 45 2 := ⟨by kernel_rfl, by kernel_rfl, by kernel_rfl, by kernel_rfl, by kernel_rfl⟩
theorem eq53_ok : EqOK Tryz.prog 53 2 := ⟨by kernel_rfl, by kernel_rfl, by kernel_rfl, by kernel_rfl, by kernel_rfl⟩
theorem eq130_ok : EqOK Tryz.prog 130 1 := ⟨by kernel_rfl, by kernel_rfl, by kernel_rfl, by kernel_rfl, by kernel_rfl⟩
theorem eq189_ok : EqOK Tryz.prog 189 3 := ⟨by kernel_rfl, by kernel_rfl, by kernel_rfl, by kernel_rfl, by kernel_rfl⟩
def flds (P : Program) (t : Nat) : Array Field := match P.underlying t with
  | some (.struct a) => a
  | _ => #[]
theorem ty2_ok : TyOK Tryz.prog 2 ty2 := ⟨by kernel_rfl, (by show Tryz.prog.underlying 2 = some (.int .i64); kernel_rfl), rfl, rfl, rfl, (fun _ => ⟨_, rfl, rfl⟩)⟩
theorem ty3_ok : TyOK Tryz.prog 3 ty3 := ⟨by kernel_rfl, (by show Tryz.prog.underlying 3 = some (.int .i64); kernel_rfl), rfl, rfl, rfl, (fun _ => ⟨_, rfl, rfl⟩)⟩
theorem ty4_ok : TyOK Tryz.prog 4 ty4 := ⟨by kernel_rfl, (by show Tryz.prog.underlying 4 = some (.bool); kernel_rfl), rfl, rfl, rfl, (fun _ => ⟨_, rfl, rfl⟩)⟩
theorem ty5_ok : TyOK Tryz.prog 5 ty5 := ⟨by kernel_rfl, (by show Tryz.prog.underlying 5 = some (.int .u8); kernel_rfl), rfl, rfl, rfl, (fun _ => ⟨_, rfl, rfl⟩)⟩
theorem ty9_ok : TyOK Tryz.prog 9 ty9 := ⟨by kernel_rfl, (by show Tryz.prog.underlying 9 = some (.string); kernel_rfl), rfl, rfl, rfl, (fun _ => ⟨_, rfl, rfl⟩)⟩
theorem ty22_ok : TyOK Tryz.prog 22 ty22 := ⟨by kernel_rfl, (by show Tryz.prog.underlying 22 = some (.int .u64); kernel_rfl), rfl, rfl, rfl, (fun _ => ⟨_, rfl, rfl⟩)⟩
theorem ty23_ok : TyOK Tryz.prog 23 ty23 := ⟨by kernel_rfl, (by show Tryz.prog.underlying 23 = some (.slice 5); kernel_rfl), rfl, rfl, rfl, (fun _ => ⟨_, rfl, rfl⟩)⟩
theorem ty25_ok : TyOK Tryz.prog 25 ty25 := ⟨by kernel_rfl, ⟨flds Tryz.prog 25, (by show Tryz.prog.underlying 25 = some (.struct (flds Tryz.prog 25)); kernel_rfl), by kernel_rfl, by kernel_rfl⟩, rfl, rfl, by decide +kernel, (fun h => by cases h)⟩
theorem ty26_ok : TyOK Tryz.prog 26 ty26 := ⟨by kernel_rfl, (by show Tryz.prog.underlying 26 = some (.int .i64); kernel_rfl), rfl, rfl, rfl, (fun _ => ⟨_, rfl, rfl⟩)⟩
theorem ty41_ok : TyOK Tryz.prog 41 ty41 := ⟨by kernel_rfl, (by show Tryz.prog.underlying 41 = some (.pointer 48); kernel_rfl), rfl, rfl, rfl, (fun _ => ⟨_, rfl, rfl⟩)⟩
theorem ty43_ok : TyOK Tryz.prog 43 ty43 := ⟨by kernel_rfl, ⟨flds Tryz.prog 43, (by show Tryz.prog.underlying 43 = some (.struct (flds Tryz.prog 43)); kernel_rfl), by kernel_rfl, by kernel_rfl⟩, rfl, rfl, by decide +kernel, (fun h => by cases h)⟩
theorem ty45_ok : TyOK Tryz.prog 45 ty45 := ⟨by kernel_rfl, ⟨flds Tryz.prog 45, (by show Tryz.prog.underlying 45 = some (.struct (flds Tryz.prog 45)); kernel_rfl), by kernel_rfl, by kernel_rfl⟩, rfl, rfl, rfl, (fun h => by cases h)⟩
theorem ty46_ok : TyOK Tryz.prog 46 ty46 := ⟨by kernel_rfl, (by show Tryz.prog.underlying 46 = some (.array 8 45); kernel_rfl), rfl, rfl, by decide +kernel, (fun h => by cases h)⟩
theorem ty48_ok : TyOK Tryz.prog 48 ty48 := ⟨by kernel_rfl, ⟨flds Tryz.prog 48, (by show Tryz.prog.underlying 48 = some (.struct (flds Tryz.prog 48)); kernel_rfl), by kernel_rfl, by kernel_rfl⟩, rfl, rfl, by decide +kernel, (fun h => by cases h)⟩
theorem ty53_ok : TyOK Tryz.prog 53 ty53 := ⟨by kernel_rfl, ⟨flds Tryz.prog 53, (by show Tryz.prog.underlying 53 = some (.struct (flds Tryz.prog 53)); kernel_rfl), by kernel_rfl, by kernel_rfl⟩, rfl, rfl, rfl, (fun h => by cases h)⟩
theorem ty55_ok : TyOK Tryz.prog 55 ty55 := ⟨by kernel_rfl, ⟨flds Tryz.prog 55, (by show Tryz.prog.underlying 55 = some (.struct (flds Tryz.prog 55)); kernel_rfl), by kernel_rfl, by kernel_rfl⟩, rfl, rfl, rfl, (fun h => by cases h)⟩
theorem ty60_ok : TyOK Tryz.prog 60 ty60 := ⟨by kernel_rfl, (by show Tryz.prog.underlying 60 = some (.int .u16); kernel_rfl), rfl, rfl, rfl, (fun _ => ⟨_, rfl, rfl⟩)⟩
theorem ty67_ok : TyOK Tryz.prog 67 ty67 := ⟨by kernel_rfl, (by show Tryz.prog.underlying 67 = some (.slice 69); kernel_rfl), rfl, rfl, rfl, (fun _ => ⟨_, rfl, rfl⟩)⟩
theorem ty69_ok : TyOK Tryz.prog 69 ty69 := ⟨by kernel_rfl, (by show Tryz.prog.underlying 69 = some (.array 2 68); kernel_rfl), rfl, rfl, rfl, (fun h => by cases h)⟩
theorem ty68_ok : TyOK Tryz.prog 68 ty68 := ⟨by kernel_rfl, (by show Tryz.prog.underlying 68 = some (.int .i8); kernel_rfl), rfl, rfl, rfl, (fun _ => ⟨_, rfl, rfl⟩)⟩
theorem ty72_ok : TyOK Tryz.prog 72 ty72 := ⟨by kernel_rfl, (by show Tryz.prog.underlying 72 = some (.slice 2); kernel_rfl), rfl, rfl, rfl, (fun _ => ⟨_, rfl, rfl⟩)⟩
theorem ty73_ok : TyOK Tryz.prog 73 ty73 := ⟨by kernel_rfl, (by show Tryz.prog.underlying 73 = some (.pointer 85); kernel_rfl), rfl, rfl, rfl, (fun _ => ⟨_, rfl, rfl⟩)⟩
theorem ty79_ok : TyOK Tryz.prog 79 ty79 := ⟨by kernel_rfl, ⟨flds Tryz.prog 79, (by show Tryz.prog.underlying 79 = some (.struct (flds Tryz.prog 79)); kernel_rfl), by kernel_rfl, by kernel_rfl⟩, rfl, rfl, rfl, (fun h => by cases h)⟩
theorem ty83_ok : TyOK Tryz.prog 83 ty83 := ⟨by kernel_rfl, (by show Tryz.prog.underlying 83 = some (.slice 87); kernel_rfl), rfl, rfl, rfl, (fun _ => ⟨_, rfl, rfl⟩)⟩
theorem ty87_ok : TyOK Tryz.prog 87 ty87 := ⟨by kernel_rfl, ⟨flds Tryz.prog 87, (by show Tryz.prog.underlying 87 = some (.struct (flds Tryz.prog 87)); kernel_rfl), by kernel_rfl, by kernel_rfl⟩, rfl, rfl, rfl, (fun h => by cases h)⟩
theorem ty85_ok : TyOK Tryz.prog 85 ty85 := ⟨by kernel_rfl, ⟨flds Tryz.prog 85, (by show Tryz.prog.underlying 85 = some (.struct (flds Tryz.prog 85)); kernel_rfl), by kernel_rfl, by kernel_rfl⟩, rfl, rfl, by decide +kernel, (fun h => by cases h)⟩
theorem ty95_ok : TyOK Tryz.prog 95 ty95 := ⟨by kernel_rfl, ⟨_, rfl⟩, rfl, rfl, rfl, (fun _ => ⟨_, rfl, rfl⟩)⟩
theorem ty100_ok : TyOK Tryz.prog 100 ty100 := ⟨by kernel_rfl, (by show Tryz.prog.underlying 100 = some (.pointer 149); kernel_rfl), rfl, rfl, rfl, (fun _ => ⟨_, rfl, rfl⟩)⟩
theorem ty102_ok : TyOK Tryz.prog 102 ty102 := ⟨by kernel_rfl, ⟨flds Tryz.prog 102, (by show Tryz.prog.underlying 102 = some (.struct (flds Tryz.prog 102)); kernel_rfl), by kernel_rfl, by kernel_rfl⟩, rfl, rfl, rfl, (fun h => by cases h)⟩
theorem ty111_ok : TyOK Tryz.prog 111 ty111 := ⟨by kernel_rfl, (by show Tryz.prog.underlying 111 = some (.int .u64); kernel_rfl), rfl, rfl, rfl, (fun _ => ⟨_, rfl, rfl⟩)⟩
theorem ty130_ok : TyOK Tryz.prog 130 ty130 := ⟨by kernel_rfl, ⟨flds Tryz.prog 130, (by show Tryz.prog.underlying 130 = some (.struct (flds Tryz.prog 130)); kernel_rfl), by kernel_rfl, by kernel_rfl⟩, rfl, rfl, rfl, (fun h => by cases h)⟩
theorem ty131_ok : TyOK Tryz.prog 131 ty131 := ⟨by kernel_rfl, (by show Tryz.prog.underlying 131 = some (.array 5 26); kernel_rfl), rfl, rfl, rfl, (fun h => by cases h)⟩
theorem ty134_ok : TyOK Tryz.prog 134 ty134 := ⟨by kernel_rfl, (by show Tryz.prog.underlying 134 = some (.pointer 136); kernel_rfl), rfl, rfl, rfl, (fun _ => ⟨_, rfl, rfl⟩)⟩
theorem ty136_ok : TyOK Tryz.prog 136 ty136 := ⟨by kernel_rfl, ⟨flds Tryz.prog 136, (by show Tryz.prog.underlying 136 = some (.struct (flds Tryz.prog 136)); kernel_rfl), by kernel_rfl, by kernel_rfl⟩, rfl, rfl, rfl, (fun h => by cases h)⟩
theorem ty138_ok : TyOK Tryz.prog 138 ty138 := ⟨by kernel_rfl, ⟨flds Tryz.prog 138, (by show Tryz.prog.underlying 138 = some (.struct (flds Tryz.prog 138)); kernel_rfl), by kernel_rfl, by kernel_rfl⟩, rfl, rfl, rfl, (fun h => by cases h)⟩
theorem ty144_ok : TyOK Tryz.prog 144 ty144 := ⟨by kernel_rfl, (by show Tryz.prog.underlying 144 = some (.array 2 22); kernel_rfl), rfl, rfl, rfl, (fun h => by cases h)⟩
theorem ty147_ok : TyOK Tryz.prog 147 ty147 := ⟨by kernel_rfl, ⟨flds Tryz.prog 147, (by show Tryz.prog.underlying 147 = some (.struct (flds Tryz.prog 147)); kernel_rfl), by kernel_rfl, by kernel_rfl⟩, rfl, rfl, rfl, (fun h => by cases h)⟩
theorem ty149_ok : TyOK Tryz.prog 149 ty149 := ⟨by kernel_rfl, ⟨flds Tryz.prog 149, (by show Tryz.prog.underlying 149 = some (.struct (flds Tryz.prog 149)); kernel_rfl), by kernel_rfl, by kernel_rfl⟩, rfl, rfl, rfl, (fun h => by cases h)⟩
theorem ty151_ok : TyOK Tryz.prog 151 ty151 := ⟨by kernel_rfl, (by show Tryz.prog.underlying 151 = some (.int .u32); kernel_rfl), rfl, rfl, rfl, (fun _ => ⟨_, rfl, rfl⟩)⟩
theorem ty155_ok : TyOK Tryz.prog 155 ty155 := ⟨by kernel_rfl, (by show Tryz.prog.underlying 155 = some (.pointer 192); kernel_rfl), rfl, rfl, rfl, (fun _ => ⟨_, rfl, rfl⟩)⟩
theorem ty158_ok : TyOK Tryz.prog 158 ty158 := ⟨by kernel_rfl, ⟨flds Tryz.prog 158, (by show Tryz.prog.underlying 158 = some (.struct (flds Tryz.prog 158)); kernel_rfl), by kernel_rfl, by kernel_rfl⟩, rfl, rfl, rfl, (fun h => by cases h)⟩
theorem ty161_ok : TyOK Tryz.prog 161 ty161 := ⟨by kernel_rfl, (by show Tryz.prog.underlying 161 = some (.slice 22); kernel_rfl), rfl, rfl, rfl, (fun _ => ⟨_, rfl, rfl⟩)⟩
theorem ty164_ok : TyOK Tryz.prog 164 ty164 := ⟨by kernel_rfl, (by show Tryz.prog.underlying 164 = some (.pointer 201); kernel_rfl), rfl, rfl, rfl, (fun _ => ⟨_, rfl, rfl⟩)⟩
theorem ty170_ok : TyOK Tryz.prog 170 ty170 := ⟨by kernel_rfl, (by show Tryz.prog.underlying 170 = some (.slice 4); kernel_rfl), rfl, rfl, rfl, (fun _ => ⟨_, rfl, rfl⟩)⟩
theorem ty172_ok : TyOK Tryz.prog 172 ty172 := ⟨by kernel_rfl, ⟨flds Tryz.prog 172, (by show Tryz.prog.underlying 172 = some (.struct (flds Tryz.prog 172)); kernel_rfl), by kernel_rfl, by kernel_rfl⟩, rfl, rfl, rfl, (fun h => by cases h)⟩
theorem ty184_ok : TyOK Tryz.prog 184 ty184 := ⟨by kernel_rfl, (by show Tryz.prog.underlying 184 = some (.array 2 3); kernel_rfl), rfl, rfl, rfl, (fun h => by cases h)⟩
theorem ty185_ok : TyOK Tryz.prog 185 ty185 := ⟨by kernel_rfl, (by show Tryz.prog.underlying 185 = some (.slice 144); kernel_rfl), rfl, rfl, rfl, (fun _ => ⟨_, rfl, rfl⟩)⟩
theorem ty189_ok : TyOK Tryz.prog 189 ty189 := ⟨by kernel_rfl, ⟨flds Tryz.prog 189, (by show Tryz.prog.underlying 189 = some (.struct (flds Tryz.prog 189)); kernel_rfl), by kernel_rfl, by kernel_rfl⟩, rfl, rfl, rfl, (fun h => by cases h)⟩
theorem ty192_ok : TyOK Tryz.prog 192 ty192 := ⟨by kernel_rfl, ⟨flds Tryz.prog 192, (by show Tryz.prog.underlying 192 = some (.struct (flds Tryz.prog 192)); kernel_rfl), by kernel_rfl, by kernel_rfl⟩, rfl, rfl, rfl, (fun h => by cases h)⟩
theorem ty196_ok : TyOK Tryz.prog 196 ty196 := ⟨by kernel_rfl, (by show Tryz.prog.underlying 196 = some (.pointer 236); kernel_rfl), rfl, rfl, rfl, (fun _ => ⟨_, rfl, rfl⟩)⟩
theorem ty199_ok : TyOK Tryz.prog 199 ty199 := ⟨by kernel_rfl, ⟨flds Tryz.prog 199, (by show Tryz.prog.underlying 199 = some (.struct (flds Tryz.prog 199)); kernel_rfl), by kernel_rfl, by kernel_rfl⟩, rfl, rfl, rfl, (fun h => by cases h)⟩
theorem ty201_ok : TyOK Tryz.prog 201 ty201 := ⟨by kernel_rfl, ⟨flds Tryz.prog 201, (by show Tryz.prog.underlying 201 = some (.struct (flds Tryz.prog 201)); kernel_rfl), by kernel_rfl, by kernel_rfl⟩, rfl, rfl, rfl, (fun h => by cases h)⟩
theorem ty203_ok : TyOK Tryz.prog 203 ty203 := ⟨by kernel_rfl, (by show Tryz.prog.underlying 203 = some (.slice 151); kernel_rfl), rfl, rfl, rfl, (fun _ => ⟨_, rfl, rfl⟩)⟩
theorem ty218_ok : TyOK Tryz.prog 218 ty218 := ⟨by kernel_rfl, (by show Tryz.prog.underlying 218 = some (.slice 95); kernel_rfl), rfl, rfl, rfl, (fun _ => ⟨_, rfl, rfl⟩)⟩
theorem ty221_ok : TyOK Tryz.prog 221 ty221 := ⟨by kernel_rfl, (by show Tryz.prog.underlying 221 = some (.slice 184); kernel_rfl), rfl, rfl, rfl, (fun _ => ⟨_, rfl, rfl⟩)⟩
theorem ty233_ok : TyOK Tryz.prog 233 ty233 := ⟨by kernel_rfl, (by show Tryz.prog.underlying 233 = some (.array 8 151); kernel_rfl), rfl, rfl, rfl, (fun h => by cases h)⟩
theorem ty236_ok : TyOK Tryz.prog 236 ty236 := ⟨by kernel_rfl, ⟨flds Tryz.prog 236, (by show Tryz.prog.underlying 236 = some (.struct (flds Tryz.prog 236)); kernel_rfl), by kernel_rfl, by kernel_rfl⟩, rfl, rfl, by decide +kernel, (fun h => by cases h)⟩
theorem ty237_ok : TyOK Tryz.prog 237 ty237 := ⟨by kernel_rfl, (by show Tryz.prog.underlying 237 = some (.array 64 151); kernel_rfl), rfl, rfl, by decide +kernel, (fun h => by cases h)⟩
theorem ty273_ok : TyOK Tryz.prog 273 ty273 := ⟨by kernel_rfl, (by show Tryz.prog.underlying 273 = some (.array 64 5); kernel_rfl), rfl, rfl, by decide +kernel, (fun h => by cases h)⟩
def capB (P : Program) (f : Nat) : Bool := match P.funcs[f]? with
  | some fn => !(fn.name == "runtime.NumGoroutine") && !fn.body.isNone
  | none => false
theorem cap_of {P : Program} {f : Nat} (h : capB P f = true) : callable P f := by
  unfold capB at h
  split at h
  · rename_i fn hf
    simp only [Bool.and_eq_true, Bool.not_eq_true'] at h
    exact ⟨fn, hf, h.1, h.2⟩
  · cases h
theorem caps_ok : ((List.range 181).filter (tab.has ·)).all (capB Tryz.prog) = true := by kernel_rfl
theorem has_lt {f : Nat} (hf : tab.has f = true) : f < 181 := by
  unfold Tab.has at hf
  cases h : Nat.blt f tab.nf with
  | false => rw [h] at hf; cases hf
  | true => simpa [tab] using h
theorem caps_all (f : Nat) (hf : tab.has f = true) : callable Tryz.prog f := cap_of (List.all_eq_true.1 caps_ok f (List.mem_filter.2 ⟨List.mem_range.2 (has_lt hf), hf⟩))
theorem look_cons {j : Nat} {x : TyI} {r : List (Nat × TyI)} {P : Program} (h0 : TyOK P j x) (hr : ∀ t i, look r t = some i → TyOK P t i) : ∀ t i, look ((j, x) :: r) t = some i → TyOK P t i := by
  intro t i h
  simp only [look] at h
  split at h
  · rename_i hb
    obtain rfl := Nat.eq_of_beq_eq_true hb
    obtain rfl := Option.some.inj h
    exact h0
  · exact hr t i h
theorem look_nil {P : Program} : ∀ t i, look [] t = some i → TyOK P t i := fun _ _ h => by cases h
theorem eq_cons {P : Program} {j m : Nat} {r : List (Nat × Nat)} (h0 : EqOK P j m) (hr : ∀ t n, eqLook r t = some n → EqOK P t n) : ∀ t n, eqLook ((j, m) :: r) t = some n → EqOK P t n := by
  intro t n h
  simp only [eqLook] at h
  split at h
  · rename_i hb
    obtain rfl := Nat.eq_of_beq_eq_true hb
    obtain rfl := Option.some.inj h
    exact h0
  · exact hr t n h
theorem eq_nil {P : Program} : ∀ t n, eqLook [] t = some n → EqOK P t n := fun _ _ h => by cases h
theorem tab_ok : TabOK Tryz.prog tab := ⟨(eq_cons eq43_ok (eq_cons eq45_ok (eq_cons eq53_ok (eq_cons eq130_ok (eq_cons eq189_ok eq_nil))))), (look_cons ty2_ok (look_cons ty3_ok (look_cons ty4_ok (look_cons ty5_ok (look_cons ty9_ok (look_cons ty22_ok (look_cons ty23_ok (look_cons ty25_ok (look_cons ty26_ok (look_cons ty41_ok (look_cons ty43_ok (look_cons ty45_ok (look_cons ty46_ok (look_cons ty48_ok (look_cons ty53_ok (look_cons ty55_ok (look_cons ty60_ok (look_cons ty67_ok (look_cons ty69_ok (look_cons ty68_ok (look_cons ty72_ok (look_cons ty73_ok (look_cons ty79_ok (look_cons ty83_ok (look_cons ty87_ok (look_cons ty85_ok (look_cons ty95_ok (look_cons ty100_ok (look_cons ty102_ok (look_cons ty111_ok (look_cons ty130_ok (look_cons ty131_ok (look_cons ty134_ok (look_cons ty136_ok (look_cons ty138_ok (look_cons ty144_ok (look_cons ty147_ok (look_cons ty149_ok (look_cons ty151_ok (look_cons ty155_ok (look_cons ty158_ok (look_cons ty161_ok (look_cons ty164_ok (look_cons ty170_ok (look_cons ty172_ok (look_cons ty184_ok (look_cons ty185_ok (look_cons ty189_ok (look_cons ty192_ok (look_cons ty196_ok (look_cons ty199_ok (look_cons ty201_ok (look_cons ty203_ok (look_cons ty218_ok (look_cons ty221_ok (look_cons ty233_ok (look_cons ty236_ok (look_cons ty237_ok (look_cons ty273_ok look_nil))))))))))))))))))))))))))))))))))))))))))))))))))))))))))), caps_all, by kernel_rfl⟩
def pl3_5 : Plan := .q 0 (.q 1 (.q 2 (.q 3 (.q 4 (.q 5 (.q 6 (.q 7 (.q 8 (.q 9 (.q 10 (.q 11 (.q 12 (.q 13 (.q 14 (.q 15 (.q 16 (.q 17 (.q 18 (.q 19 (.q 20 (.q 21 (.q 22 (.q 23 (.q 24 (.q 25 (.q 26 (.q 27 (.q 28 (.q 29 (.q 30 (.q 31 (.q 32 (.q 33 (.q 34 (.done)))))))))))))))))))))))))))))))))))
def pl5_11 : Plan := .q 0 (.q 1 (.q 2 (.q 3 (.q 4 (.q 5 (.q 6 (.q 7 (.q 8 (.q 9 (.q 10 (.q 11 (.q 12 (.q 13 (.q 14 (.q 15 (.q 16 (.one 17 true (.done))))))))))))))))))
def pl10_45 : Plan := .q 0 (.q 1 (.q 2 (.q 3 (.q 4 (.q 5 (.q 6 (.q 7 (.q 8 (.q 9 (.q 10 (.q 11 (.done))))))))))))
def pl23_9 : Plan := .q 0 (.q 1 (.q 2 (.q 3 (.q 4 (.q 5 (.q 6 (.q 7 (.q 8 (.q 9 (.q 10 (.one 11 false (.one 12 true (.done)))))))))))))
def pl23_10 : Plan := .q 0 (.q 1 (.q 2 (.q 3 (.q 4 (.q 5 (.one 6 true (.done)))))))
def pl23_11 : Plan := .q 0 (.q 1 (.q 2 (.q 3 (.q 4 (.q 5 (.q 6 (.q 7 (.q 8 (.q 9 (.one 10 false (.one 11 true (.q 12 (.q 13 (.q 14 (.q 15 (.done))))))))))))))))
def pl24_6 : Plan := .q 0 (.q 1 (.q 2 (.q 3 (.q 4 (.q 5 (.q 6 (.q 7 (.q 8 (.q 9 (.q 10 (.q 11 (.q 12 (.done)))))))))))))
def pl24_8 : Plan := .q 0 (.q 1 (.q 2 (.q 3 (.one 4 false (.q 5 (.q 6 (.q 7 (.done))))))))
def pl25_3 : Plan := .q 0 (.q 1 (.q 2 (.q 3 (.q 4 (.q 5 (.q 6 (.q 7 (.q 8 (.q 9 (.q 10 (.q 11 (.q 12 (.q 13 (.q 14 (.q 15 (.q 16 (.q 17 (.done))))))))))))))))))
def pl25_6 : Plan := .q 0 (.q 1 (.q 2 (.q 3 (.q 4 (.q 5 (.q 6 (.q 7 (.q 8 (.q 9 (.q 10 (.q 11 (.q 12 (.q 13 (.q 14 (.one 15 true (.q 16 (.q 17 (.q 18 (.q 19 (.done))))))))))))))))))))
def pl26_3 : Plan := .q 0 (.q 1 (.q 2 (.q 3 (.q 4 (.q 5 (.q 6 (.q 7 (.q 8 (.q 9 (.q 10 (.q 11 (.q 12 (.q 13 (.q 14 (.q 15 (.q 16 (.q 17 (.q 18 (.q 19 (.q 20 (.q 21 (.q 22 (.q 23 (.q 24 (.q 25 (.q 26 (.q 27 (.q 28 (.q 29 (.q 30 (.q 31 (.q 32 (.done)))))))))))))))))))))))))))))))))
def pl26_5 : Plan := .q 0 (.q 1 (.q 2 (.q 3 (.q 4 (.q 5 (.q 6 (.one 7 false (.one 8 true (.done)))))))))
def pl26_8 : Plan := .q 0 (.q 1 (.q 2 (.q 3 (.q 4 (.q 5 (.q 6 (.one 7 true (.done))))))))
def pl26_9 : Plan := .q 0 (.q 1 (.q 2 (.q 3 (.q 4 (.q 5 (.q 6 (.q 7 (.q 8 (.q 9 (.done))))))))))
def pl26_12 : Plan := .q 0 (.q 1 (.q 2 (.q 3 (.q 4 (.q 5 (.q 6 (.q 7 (.q 9 (.q 10 (.q 11 (.q 12 (.q 13 (.q 14 (.q 15 (.q 16 (.one 8 false (.one 17 false (.q 18 (.one 19 true (.q 20 (.done)))))))))))))))))))))
def pl30_3 : Plan := .q 0 (.q 1 (.q 3 (.q 4 (.q 5 (.q 6 (.one 2 false (.q 7 (.one 8 true (.q 9 (.q 10 (.done)))))))))))
def pl31_1 : Plan := .q 0 (.one 1 false (.one 2 true (.q 3 (.q 4 (.q 5 (.q 6 (.q 7 (.done))))))))
def pl34_3 : Plan := .q 0 (.q 1 (.q 2 (.q 3 (.q 4 (.q 5 (.one 6 false (.q 7 (.one 8 true (.q 9 (.q 10 (.done)))))))))))
def pl35_6 : Plan := .q 0 (.q 1 (.q 2 (.q 3 (.q 4 (.q 5 (.q 6 (.q 7 (.q 8 (.q 9 (.q 10 (.q 11 (.done))))))))))))
def pl35_8 : Plan := .q 0 (.q 1 (.q 2 (.q 3 (.q 4 (.q 5 (.q 6 (.q 7 (.q 8 (.one 9 true (.q 10 (.q 11 (.q 12 (.q 13 (.q 14 (.done)))))))))))))))
def pl36_4 : Plan := .q 0 (.q 1 (.q 2 (.q 3 (.q 4 (.q 5 (.q 6 (.q 7 (.q 8 (.q 9 (.q 10 (.q 11 (.done))))))))))))
def pl36_6 : Plan := .q 0 (.q 1 (.q 2 (.q 3 (.q 4 (.q 5 (.q 6 (.q 7 (.q 8 (.q 9 (.one 10 true (.q 11 (.q 12 (.q 13 (.q 14 (.q 15 (.done))))))))))))))))
def pl37_1 : Plan := .q 0 (.q 1 (.q 2 (.q 3 (.q 4 (.q 5 (.q 6 (.q 7 (.q 8 (.q 9 (.q 10 (.q 11 (.q 12 (.q 13 (.q 14 (.q 15 (.q 16 (.done)))))))))))))))))
def pl37_3 : Plan := .q 0 (.q 1 (.q 2 (.q 3 (.q 4 (.q 5 (.q 6 (.q 7 (.q 8 (.q 9 (.one 10 true (.q 11 (.q 12 (.q 13 (.q 14 (.q 15 (.done))))))))))))))))
def pl37_4 : Plan := .q 0 (.q 1 (.q 2 (.q 3 (.q 4 (.q 5 (.q 6 (.q 7 (.q 8 (.q 9 (.q 10 (.q 11 (.q 12 (.q 13 (.q 14 (.one 15 true (.q 16 (.q 17 (.q 18 (.q 19 (.done))))))))))))))))))))
def pl38_1 : Plan := .q 0 (.q 1 (.q 2 (.q 3 (.q 4 (.q 5 (.q 6 (.q 7 (.q 8 (.q 9 (.q 10 (.q 11 (.q 12 (.q 13 (.q 14 (.q 15 (.q 16 (.q 17 (.q 18 (.q 19 (.q 20 (.q 21 (.q 22 (.q 23 (.q 24 (.q 25 (.q 26 (.q 27 (.q 28 (.q 29 (.q 30 (.q 31 (.done))))))))))))))))))))))))))))))))
def pl38_3 : Plan := .q 0 (.q 1 (.q 2 (.q 3 (.q 4 (.q 5 (.q 6 (.q 7 (.one 8 false (.one 9 true (.done))))))))))
def pl38_6 : Plan := .q 0 (.q 1 (.q 2 (.q 3 (.q 4 (.q 5 (.q 6 (.q 7 (.one 8 true (.done)))))))))
def pl38_7 : Plan := .q 0 (.q 1 (.q 2 (.q 3 (.q 4 (.q 5 (.q 6 (.q 7 (.q 8 (.q 9 (.done))))))))))
def pl38_9 : Plan := .q 0 (.q 1 (.q 2 (.q 3 (.q 4 (.q 5 (.q 6 (.q 7 (.q 8 (.q 9 (.q 10 (.q 11 (.q 12 (.q 13 (.q 14 (.q 15 (.q 16 (.q 17 (.q 18 (.q 19 (.q 20 (.done)))))))))))))))))))))
def pl48_7 : Plan := .q 0 (.q 1 (.q 2 (.q 3 (.q 4 (.q 5 (.q 6 (.q 7 (.q 8 (.q 9 (.q 10 (.one 11 true (.done))))))))))))
def pl54_12 : Plan := .q 0 (.q 1 (.q 2 (.q 3 (.q 4 (.q 5 (.q 6 (.q 7 (.one 8 true (.done)))))))))
def pl60_1 : Plan := .q 0 (.q 1 (.q 2 (.q 3 (.q 4 (.q 5 (.q 6 (.q 7 (.q 8 (.one 9 true (.q 10 (.q 11 (.q 12 (.q 13 (.q 14 (.done)))))))))))))))
def pl62_1 : Plan := .q 0 (.q 1 (.q 2 (.q 3 (.one 4 false (.one 5 true (.q 6 (.q 7 (.q 8 (.q 9 (.done))))))))))
def pl63_1 : Plan := .q 0 (.q 1 (.q 2 (.q 3 (.q 4 (.q 5 (.q 6 (.q 7 (.q 8 (.q 9 (.q 10 (.q 11 (.q 12 (.q 13 (.q 14 (.q 15 (.q 16 (.q 17 (.q 18 (.q 19 (.done))))))))))))))))))))
def pl78_6 : Plan := .q 0 (.q 1 (.q 2 (.q 3 (.q 4 (.q 5 (.q 6 (.q 7 (.q 8 (.q 9 (.q 10 (.q 11 (.q 12 (.q 13 (.one 14 true (.done)))))))))))))))
def pl83_1 : Plan := .q 0 (.q 1 (.q 2 (.q 3 (.q 4 (.q 5 (.q 6 (.q 7 (.q 8 (.q 11 (.q 12 (.one 9 false (.q 10 (.q 13 (.q 14 (.q 15 (.done))))))))))))))))
def pl85_1 : Plan := .q 0 (.q 1 (.q 2 (.q 3 (.q 4 (.q 5 (.q 6 (.q 7 (.q 8 (.one 9 true (.q 10 (.done)))))))))))
def pl93_2 : Plan := .q 0 (.q 1 (.q 2 (.q 3 (.q 4 (.q 5 (.q 6 (.q 7 (.q 8 (.q 9 (.q 10 (.q 11 (.q 12 (.q 13 (.q 14 (.q 15 (.q 16 (.q 17 (.q 18 (.q 19 (.q 20 (.q 21 (.one 22 true (.done)))))))))))))))))))))))
def pl112_8 : Plan := .q 0 (.q 1 (.q 2 (.q 3 (.q 4 (.q 5 (.q 6 (.q 7 (.q 8 (.q 9 (.one 10 false (.one 11 true (.q 12 (.q 13 (.one 14 true (.done)))))))))))))))
def pl121_1 : Plan := .q 0 (.q 1 (.q 2 (.q 3 (.q 4 (.q 5 (.q 6 (.q 7 (.q 8 (.q 9 (.q 10 (.q 11 (.done))))))))))))
def pl122_9 : Plan := .q 0 (.q 1 (.q 2 (.q 3 (.q 4 (.q 5 (.q 6 (.q 7 (.q 8 (.q 9 (.q 10 (.q 11 (.q 12 (.q 13 (.q 14 (.q 15 (.q 16 (.q 17 (.q 18 (.q 19 (.q 20 (.q 21 (.q 22 (.one 23 true (.done))))))))))))))))))))))))
def pl129_12 : Plan := .q 0 (.q 1 (.q 2 (.q 3 (.q 4 (.q 5 (.q 6 (.one 7 true (.done))))))))
def pl131_1 : Plan := .q 0 (.q 1 (.q 2 (.q 3 (.q 4 (.q 5 (.two 6 (.one 7 false (.one 8 false (.one 9 true (.done)))) 7 (.one 6 false (.one 8 false (.one 9 true (.done))))))))))
def pl136_1 : Plan := .q 0 (.q 1 (.q 2 (.q 3 (.q 4 (.q 5 (.q 6 (.q 7 (.q 8 (.q 9 (.q 10 (.done)))))))))))
def pl140_12 : Plan := .q 0 (.q 1 (.q 2 (.q 3 (.q 4 (.q 5 (.q 6 (.q 7 (.q 8 (.q 9 (.one 10 true (.one 11 true (.done))))))))))))
def pl143_9 : Plan := .q 0 (.q 1 (.q 2 (.q 3 (.q 4 (.q 5 (.q 6 (.q 7 (.q 8 (.q 9 (.q 10 (.q 11 (.q 12 (.q 13 (.q 14 (.q 15 (.q 16 (.q 17 (.q 18 (.one 19 true (.q 20 (.q 21 (.one 22 true (.done)))))))))))))))))))))))
def pl143_13 : Plan := .q 0 (.q 1 (.q 2 (.q 3 (.q 4 (.q 5 (.q 6 (.q 7 (.q 8 (.q 9 (.q 10 (.q 11 (.q 12 (.q 13 (.one 14 true (.q 15 (.q 16 (.one 17 true (.done))))))))))))))))))
def pl143_16 : Plan := .q 0 (.q 1 (.q 2 (.q 3 (.q 4 (.q 5 (.q 6 (.q 7 (.q 8 (.q 9 (.one 10 true (.done)))))))))))
def pl146_3 : Plan := .q 0 (.q 1 (.q 2 (.q 3 (.q 4 (.two 5 (.one 6 false (.one 7 true (.one 8 true (.done)))) 6 (.one 5 false (.one 7 true (.one 8 true (.done)))))))))
def pl146_7 : Plan := .q 0 (.q 1 (.q 2 (.q 3 (.one 4 true (.done)))))
def pl148_5 : Plan := .q 0 (.q 1 (.q 2 (.q 3 (.q 4 (.q 5 (.q 6 (.q 7 (.q 8 (.q 9 (.q 10 (.q 11 (.q 12 (.q 13 (.q 14 (.q 15 (.q 16 (.q 17 (.q 18 (.q 19 (.q 20 (.q 21 (.q 22 (.q 23 (.one 24 true (.one 25 true (.one 26 true (.done)))))))))))))))))))))))))))
def pl150_13 : Plan := .q 0 (.q 1 (.q 2 (.q 3 (.q 4 (.q 5 (.q 6 (.q 7 (.q 8 (.q 9 (.q 10 (.q 11 (.q 12 (.q 13 (.q 14 (.q 15 (.q 16 (.q 17 (.q 18 (.q 19 (.q 20 (.q 21 (.q 22 (.one 23 true (.done))))))))))))))))))))))))
def pl150_20 : Plan := .q 0 (.q 1 (.q 2 (.q 3 (.q 4 (.q 5 (.q 6 (.q 7 (.q 8 (.q 9 (.q 10 (.q 11 (.q 12 (.q 13 (.q 14 (.q 15 (.q 16 (.q 17 (.q 18 (.q 19 (.q 20 (.q 21 (.q 22 (.q 23 (.q 24 (.q 25 (.q 26 (.q 27 (.done))))))))))))))))))))))))))))
def pl150_21 : Plan := .q 0 (.q 1 (.q 2 (.q 3 (.q 4 (.q 5 (.q 6 (.q 7 (.q 8 (.q 9 (.q 10 (.q 11 (.q 12 (.q 13 (.q 14 (.q 15 (.q 16 (.q 17 (.q 18 (.q 19 (.q 20 (.q 21 (.q 22 (.done)))))))))))))))))))))))
def pl150_22 : Plan := .q 0 (.q 1 (.q 2 (.q 3 (.q 4 (.q 5 (.q 6 (.q 7 (.q 8 (.q 9 (.q 10 (.q 11 (.q 12 (.q 13 (.q 14 (.q 15 (.q 16 (.q 17 (.q 18 (.q 19 (.q 20 (.q 21 (.one 22 true (.one 23 true (.done))))))))))))))))))))))))
def pl150_26 : Plan := .q 0 (.q 1 (.q 2 (.q 3 (.q 4 (.q 5 (.q 6 (.q 7 (.q 8 (.q 9 (.q 10 (.q 11 (.one 12 true (.done)))))))))))))
def pl164_2 : Plan := .q 0 (.q 1 (.q 2 (.q 3 (.q 4 (.q 5 (.q 6 (.q 7 (.q 8 (.q 9 (.q 10 (.q 11 (.q 12 (.q 13 (.q 14 (.q 15 (.q 16 (.q 17 (.q 18 (.q 19 (.q 20 (.q 21 (.q 22 (.q 23 (.done))))))))))))))))))))))))
def pl164_6 : Plan := .q 0 (.q 1 (.q 2 (.q 3 (.q 4 (.q 5 (.q 6 (.q 7 (.q 8 (.q 9 (.q 10 (.q 11 (.q 12 (.q 13 (.q 14 (.q 15 (.q 16 (.q 17 (.q 18 (.q 19 (.q 20 (.q 21 (.q 22 (.done)))))))))))))))))))))))
def pl171_4 : Plan := .q 0 (.q 1 (.q 2 (.q 3 (.q 4 (.q 5 (.q 6 (.q 7 (.q 8 (.q 9 (.q 10 (.one 11 true (.done))))))))))))
def pl173_5 : Plan := .q 0 (.q 1 (.q 2 (.q 3 (.q 4 (.q 5 (.q 6 (.q 7 (.q 8 (.q 9 (.q 10 (.q 11 (.q 12 (.q 13 (.q 14 (.q 15 (.q 16 (.q 17 (.q 18 (.q 19 (.q 20 (.q 21 (.q 22 (.q 23 (.q 24 (.q 25 (.q 26 (.q 27 (.q 28 (.q 29 (.q 30 (.q 31 (.q 32 (.q 33 (.q 34 (.q 35 (.q 36 (.q 37 (.q 38 (.one 39 true (.done))))))))))))))))))))))))))))))))))))))))
def pl173_10 : Plan := .q 0 (.q 1 (.q 2 (.q 3 (.q 4 (.q 5 (.q 6 (.q 7 (.q 8 (.q 9 (.q 10 (.q 11 (.q 12 (.q 13 (.q 14 (.q 15 (.q 16 (.q 17 (.q 18 (.q 19 (.q 20 (.q 21 (.q 22 (.one 23 true (.done))))))))))))))))))))))))
def pl177_1 : Plan := .q 0 (.q 1 (.q 2 (.q 3 (.q 4 (.q 5 (.q 6 (.q 7 (.q 8 (.done)))))))))
end Go.Proofs.YtnlheljpagpiiaaGreat
