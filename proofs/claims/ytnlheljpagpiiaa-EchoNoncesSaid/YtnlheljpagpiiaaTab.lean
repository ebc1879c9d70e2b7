/-
  The types that the functions use, and that the program bears them (by program).
-/
import Derived.Test.YtnlheljpagpiiaaMd
import Derived.Test.YtnlheljpagpiiaaProg
import Derived.KernelRfl
set_option linter.unusedVariables false
set_option maxRecDepth 100000
namespace Go.Proofs.Ytnlheljpagpiiaa
def ty2 : TyI := ⟨.int .i64, 1, 8, [.int .i64 0], false⟩
def ty3 : TyI := ⟨.int .i64, 1, 8, [.int .i64 0], false⟩
def ty4 : TyI := ⟨.bool, 1, 1, [.bool false], false⟩
def ty5 : TyI := ⟨.int .u8, 1, 1, [.int .u8 0], false⟩
def ty9 : TyI := ⟨.str, 1, 16, [.string ByteArray.empty], false⟩
def ty22 : TyI := ⟨.slice 5, 1, 24, [.slice none 0 0], false⟩
def ty23 : TyI := ⟨.slice 34, 1, 24, [.slice none 0 0], false⟩
def ty34 : TyI := ⟨.int .u64, 1, 8, [.int .u64 0], false⟩
def ty25 : TyI := ⟨.ptr 47, 1, 8, [.pointer none], false⟩
def ty26 : TyI := ⟨.int .i64, 1, 8, [.int .i64 0], false⟩
def ty30 : TyI := ⟨.struct [(0, 3), (1, 3), (2, 3), (3, 3), (4, 3), (5, 3), (6, 3), (7, 3), (8, 3), (9, 3)], 10, 80, List.replicate 10 (.int .i64 0), true⟩
def ty36 : TyI := ⟨.struct [(0, 3), (1, 3), (2, 3), (3, 3), (4, 3), (5, 3), (6, 34), (7, 2), (8, 3), (9, 3), (10, 22), (11, 22), (12, 22)], 13, 152, [.int .i64 0, .int .i64 0, .int .i64 0, .int .i64 0, .int .i64 0, .int .i64 0, .int .u64 0, .int .i64 0, .int .i64 0, .int .i64 0, .slice none 0 0, .slice none 0 0, .slice none 0 0], true⟩
def ty42 : TyI := ⟨.int .u64, 1, 8, [.int .u64 0], false⟩
def ty44 : TyI := ⟨.struct [(0, 34), (1, 2)], 2, 16, [.int .u64 0, .int .i64 0], true⟩
def ty45 : TyI := ⟨.arr 8 44, 16, 128, [.int .u64 0, .int .i64 0, .int .u64 0, .int .i64 0, .int .u64 0, .int .i64 0, .int .u64 0, .int .i64 0, .int .u64 0, .int .i64 0, .int .u64 0, .int .i64 0, .int .u64 0, .int .i64 0, .int .u64 0, .int .i64 0], true⟩
def ty47 : TyI := ⟨.struct [(0, 30), (10, 22), (11, 3), (12, 34), (13, 34), (14, 45)], 30, 256, [.int .i64 0, .int .i64 0, .int .i64 0, .int .i64 0, .int .i64 0, .int .i64 0, .int .i64 0, .int .i64 0, .int .i64 0, .int .i64 0, .slice none 0 0, .int .i64 0, .int .u64 0, .int .u64 0, .int .u64 0, .int .i64 0, .int .u64 0, .int .i64 0, .int .u64 0, .int .i64 0, .int .u64 0, .int .i64 0, .int .u64 0, .int .i64 0, .int .u64 0, .int .i64 0, .int .u64 0, .int .i64 0, .int .u64 0, .int .i64 0], true⟩
def ty53 : TyI := ⟨.ptr 68, 1, 8, [.pointer none], false⟩
def ty56 : TyI := ⟨.struct [(0, 53), (1, 4)], 2, 16, [.pointer none, .bool false], true⟩
def ty63 : TyI := ⟨.int .u32, 1, 4, [.int .u32 0], false⟩
def ty66 : TyI := ⟨.struct [(0, 22), (1, 3), (2, 4)], 3, 40, [.slice none 0 0, .int .i64 0, .bool false], true⟩
def ty68 : TyI := ⟨.struct [(0, 66), (3, 3)], 4, 48, [.slice none 0 0, .int .i64 0, .bool false, .int .i64 0], true⟩
def ty75 : TyI := ⟨.ptr 99, 1, 8, [.pointer none], false⟩
def ty77 : TyI := ⟨.struct [(0, 75)], 1, 8, [.pointer none], true⟩
def ty84 : TyI := ⟨.struct [(0, 3), (1, 63), (2, 63)], 3, 16, [.int .i64 0, .int .u32 0, .int .u32 0], true⟩
def ty91 : TyI := ⟨.arr 2 3, 2, 16, [.int .i64 0, .int .i64 0], true⟩
def ty96 : TyI := ⟨.arr 2 34, 2, 16, [.int .u64 0, .int .u64 0], true⟩
def ty99 : TyI := ⟨.struct [(0, 66)], 3, 40, [.slice none 0 0, .int .i64 0, .bool false], true⟩
def ty105 : TyI := ⟨.slice 91, 1, 24, [.slice none 0 0], false⟩
def ty106 : TyI := ⟨.ptr 124, 1, 8, [.pointer none], false⟩
def ty110 : TyI := ⟨.slice 96, 1, 24, [.slice none 0 0], false⟩
def ty119 : TyI := ⟨.ptr 130, 1, 8, [.pointer none], false⟩
def ty122 : TyI := ⟨.struct [(0, 119)], 1, 8, [.pointer none], true⟩
def ty124 : TyI := ⟨.struct [(0, 122), (1, 22)], 2, 32, [.pointer none, .slice none 0 0], true⟩
def ty127 : TyI := ⟨.arr 8 63, 8, 32, [.int .u32 0, .int .u32 0, .int .u32 0, .int .u32 0, .int .u32 0, .int .u32 0, .int .u32 0, .int .u32 0], true⟩
def ty130 : TyI := ⟨.struct [(0, 127), (8, 22), (9, 3), (10, 4)], 11, 72, [.int .u32 0, .int .u32 0, .int .u32 0, .int .u32 0, .int .u32 0, .int .u32 0, .int .u32 0, .int .u32 0, .slice none 0 0, .int .i64 0, .bool false], true⟩
def ty131 : TyI := ⟨.arr 64 63, 64, 256, List.replicate 64 (.int .u32 0), true⟩
def ty137 : TyI := ⟨.slice 63, 1, 24, [.slice none 0 0], false⟩
def ty155 : TyI := ⟨.arr 64 5, 64, 64, List.replicate 64 (.int .u8 0), true⟩
def tab : Tab := ⟨[(2, ty2), (3, ty3), (4, ty4), (5, ty5), (9, ty9), (22, ty22), (23, ty23), (34, ty34), (25, ty25), (26, ty26), (30, ty30), (36, ty36), (42, ty42), (44, ty44), (45, ty45), (47, ty47), (53, ty53), (56, ty56), (63, ty63), (66, ty66), (68, ty68), (75, ty75), (77, ty77), (84, ty84), (91, ty91), (96, ty96), (99, ty99), (105, ty105), (106, ty106), (110, ty110), (119, ty119), (122, ty122), (124, ty124), (127, ty127), (130, ty130), (131, ty131), (137, ty137), (155, ty155)], 95, [(30, 10), (44, 2), (84, 3)], []⟩
theorem eq30_ok : EqOK Try.prog 30 10 := ⟨by kernel_rfl, by kernel_rfl, by kernel_rfl, by kernel_rfl, by kernel_rfl⟩
theorem eq44_ok : EqOK Try.prog 44 2 := ⟨by kernel_rfl, by kernel_rfl, by kernel_rfl, by kernel_rfl, by kernel_rfl⟩
theorem eq84_ok : EqOK Try.prog 84 3 := ⟨by kernel_rfl, by kernel_rfl, by kernel_rfl, by kernel_rfl, by kernel_rfl⟩
def flds (P : Program) (t : Nat) : Array Field := match P.underlying t with
  | some (.struct a) => a
  | _ => #[]
theorem ty2_ok : TyOK Try.prog 2 ty2 := ⟨by kernel_rfl, (by show Try.prog.underlying 2 = some (.int .i64); kernel_rfl), rfl, rfl, rfl, (fun _ => ⟨_, rfl, rfl⟩)⟩
theorem ty3_ok : TyOK Try.prog 3 ty3 := ⟨by kernel_rfl, (by show Try.prog.underlying 3 = some (.int .i64); kernel_rfl), rfl, rfl, rfl, (fun _ => ⟨_, rfl, rfl⟩)⟩
theorem ty4_ok : TyOK Try.prog 4 ty4 := ⟨by kernel_rfl, (by show Try.prog.underlying 4 = some (.bool); kernel_rfl), rfl, rfl, rfl, (fun _ => ⟨_, rfl, rfl⟩)⟩
theorem ty5_ok : TyOK Try.prog 5 ty5 := ⟨by kernel_rfl, (by show Try.prog.underlying 5 = some (.int .u8); kernel_rfl), rfl, rfl, rfl, (fun _ => ⟨_, rfl, rfl⟩)⟩
theorem ty9_ok : TyOK Try.prog 9 ty9 := ⟨by kernel_rfl, (by show Try.prog.underlying 9 = some (.string); kernel_rfl), rfl, rfl, rfl, (fun _ => ⟨_, rfl, rfl⟩)⟩
theorem ty22_ok : TyOK Try.prog 22 ty22 := ⟨by kernel_rfl, (by show Try.prog.underlying 22 = some (.slice 5); kernel_rfl), rfl, rfl, rfl, (fun _ => ⟨_, rfl, rfl⟩)⟩
theorem ty23_ok : TyOK Try.prog 23 ty23 := ⟨by kernel_rfl, (by show Try.prog.underlying 23 = some (.slice 34); kernel_rfl), rfl, rfl, rfl, (fun _ => ⟨_, rfl, rfl⟩)⟩
theorem ty34_ok : TyOK Try.prog 34 ty34 := ⟨by kernel_rfl, (by show Try.prog.underlying 34 = some (.int .u64); kernel_rfl), rfl, rfl, rfl, (fun _ => ⟨_, rfl, rfl⟩)⟩
theorem ty25_ok : TyOK Try.prog 25 ty25 := ⟨by kernel_rfl, (by show Try.prog.underlying 25 = some (.pointer 47); kernel_rfl), rfl, rfl, rfl, (fun _ => ⟨_, rfl, rfl⟩)⟩
theorem ty26_ok : TyOK Try.prog 26 ty26 := ⟨by kernel_rfl, (by show Try.prog.underlying 26 = some (.int .i64); kernel_rfl), rfl, rfl, rfl, (fun _ => ⟨_, rfl, rfl⟩)⟩
theorem ty30_ok : TyOK Try.prog 30 ty30 := ⟨by kernel_rfl, ⟨flds Try.prog 30, (by show Try.prog.underlying 30 = some (.struct (flds Try.prog 30)); kernel_rfl), by kernel_rfl, by kernel_rfl⟩, rfl, rfl, by decide +kernel, (fun h => by cases h)⟩
theorem ty36_ok : TyOK Try.prog 36 ty36 := ⟨by kernel_rfl, ⟨flds Try.prog 36, (by show Try.prog.underlying 36 = some (.struct (flds Try.prog 36)); kernel_rfl), by kernel_rfl, by kernel_rfl⟩, rfl, rfl, by decide +kernel, (fun h => by cases h)⟩
theorem ty42_ok : TyOK Try.prog 42 ty42 := ⟨by kernel_rfl, (by show Try.prog.underlying 42 = some (.int .u64); kernel_rfl), rfl, rfl, rfl, (fun _ => ⟨_, rfl, rfl⟩)⟩
theorem ty44_ok : TyOK Try.prog 44 ty44 := ⟨by kernel_rfl, ⟨flds Try.prog 44, (by show Try.prog.underlying 44 = some (.struct (flds Try.prog 44)); kernel_rfl), by kernel_rfl, by kernel_rfl⟩, rfl, rfl, rfl, (fun h => by cases h)⟩
theorem ty45_ok : TyOK Try.prog 45 ty45 := ⟨by kernel_rfl, (by show Try.prog.underlying 45 = some (.array 8 44); kernel_rfl), rfl, rfl, by decide +kernel, (fun h => by cases h)⟩
theorem ty47_ok : TyOK Try.prog 47 ty47 := ⟨by kernel_rfl, ⟨flds Try.prog 47, (by show Try.prog.underlying 47 = some (.struct (flds Try.prog 47)); kernel_rfl), by kernel_rfl, by kernel_rfl⟩, rfl, rfl, by decide +kernel, (fun h => by cases h)⟩
theorem ty53_ok : TyOK Try.prog 53 ty53 := ⟨by kernel_rfl, (by show Try.prog.underlying 53 = some (.pointer 68); kernel_rfl), rfl, rfl, rfl, (fun _ => ⟨_, rfl, rfl⟩)⟩
theorem ty56_ok : TyOK Try.prog 56 ty56 := ⟨by kernel_rfl, ⟨flds Try.prog 56, (by show Try.prog.underlying 56 = some (.struct (flds Try.prog 56)); kernel_rfl), by kernel_rfl, by kernel_rfl⟩, rfl, rfl, rfl, (fun h => by cases h)⟩
theorem ty63_ok : TyOK Try.prog 63 ty63 := ⟨by kernel_rfl, (by show Try.prog.underlying 63 = some (.int .u32); kernel_rfl), rfl, rfl, rfl, (fun _ => ⟨_, rfl, rfl⟩)⟩
theorem ty66_ok : TyOK Try.prog 66 ty66 := ⟨by kernel_rfl, ⟨flds Try.prog 66, (by show Try.prog.underlying 66 = some (.struct (flds Try.prog 66)); kernel_rfl), by kernel_rfl, by kernel_rfl⟩, rfl, rfl, rfl, (fun h => by cases h)⟩
theorem ty68_ok : TyOK Try.prog 68 ty68 := ⟨by kernel_rfl, ⟨flds Try.prog 68, (by show Try.prog.underlying 68 = some (.struct (flds Try.prog 68)); kernel_rfl), by kernel_rfl, by kernel_rfl⟩, rfl, rfl, rfl, (fun h => by cases h)⟩
theorem ty75_ok : TyOK Try.prog 75 ty75 := ⟨by kernel_rfl, (by show Try.prog.underlying 75 = some (.pointer 99); kernel_rfl), rfl, rfl, rfl, (fun _ => ⟨_, rfl, rfl⟩)⟩
theorem ty77_ok : TyOK Try.prog 77 ty77 := ⟨by kernel_rfl, ⟨flds Try.prog 77, (by show Try.prog.underlying 77 = some (.struct (flds Try.prog 77)); kernel_rfl), by kernel_rfl, by kernel_rfl⟩, rfl, rfl, rfl, (fun h => by cases h)⟩
theorem ty84_ok : TyOK Try.prog 84 ty84 := ⟨by kernel_rfl, ⟨flds Try.prog 84, (by show Try.prog.underlying 84 = some (.struct (flds Try.prog 84)); kernel_rfl), by kernel_rfl, by kernel_rfl⟩, rfl, rfl, rfl, (fun h => by cases h)⟩
theorem ty91_ok : TyOK Try.prog 91 ty91 := ⟨by kernel_rfl, (by show Try.prog.underlying 91 = some (.array 2 3); kernel_rfl), rfl, rfl, rfl, (fun h => by cases h)⟩
theorem ty96_ok : TyOK Try.prog 96 ty96 := ⟨by kernel_rfl, (by show Try.prog.underlying 96 = some (.array 2 34); kernel_rfl), rfl, rfl, rfl, (fun h => by cases h)⟩
theorem ty99_ok : TyOK Try.prog 99 ty99 := ⟨by kernel_rfl, ⟨flds Try.prog 99, (by show Try.prog.underlying 99 = some (.struct (flds Try.prog 99)); kernel_rfl), by kernel_rfl, by kernel_rfl⟩, rfl, rfl, rfl, (fun h => by cases h)⟩
theorem ty105_ok : TyOK Try.prog 105 ty105 := ⟨by kernel_rfl, (by show Try.prog.underlying 105 = some (.slice 91); kernel_rfl), rfl, rfl, rfl, (fun _ => ⟨_, rfl, rfl⟩)⟩
theorem ty106_ok : TyOK Try.prog 106 ty106 := ⟨by kernel_rfl, (by show Try.prog.underlying 106 = some (.pointer 124); kernel_rfl), rfl, rfl, rfl, (fun _ => ⟨_, rfl, rfl⟩)⟩
theorem ty110_ok : TyOK Try.prog 110 ty110 := ⟨by kernel_rfl, (by show Try.prog.underlying 110 = some (.slice 96); kernel_rfl), rfl, rfl, rfl, (fun _ => ⟨_, rfl, rfl⟩)⟩
theorem ty119_ok : TyOK Try.prog 119 ty119 := ⟨by kernel_rfl, (by show Try.prog.underlying 119 = some (.pointer 130); kernel_rfl), rfl, rfl, rfl, (fun _ => ⟨_, rfl, rfl⟩)⟩
theorem ty122_ok : TyOK Try.prog 122 ty122 := ⟨by kernel_rfl, ⟨flds Try.prog 122, (by show Try.prog.underlying 122 = some (.struct (flds Try.prog 122)); kernel_rfl), by kernel_rfl, by kernel_rfl⟩, rfl, rfl, rfl, (fun h => by cases h)⟩
theorem ty124_ok : TyOK Try.prog 124 ty124 := ⟨by kernel_rfl, ⟨flds Try.prog 124, (by show Try.prog.underlying 124 = some (.struct (flds Try.prog 124)); kernel_rfl), by kernel_rfl, by kernel_rfl⟩, rfl, rfl, rfl, (fun h => by cases h)⟩
theorem ty127_ok : TyOK Try.prog 127 ty127 := ⟨by kernel_rfl, (by show Try.prog.underlying 127 = some (.array 8 63); kernel_rfl), rfl, rfl, rfl, (fun h => by cases h)⟩
theorem ty130_ok : TyOK Try.prog 130 ty130 := ⟨by kernel_rfl, ⟨flds Try.prog 130, (by show Try.prog.underlying 130 = some (.struct (flds Try.prog 130)); kernel_rfl), by kernel_rfl, by kernel_rfl⟩, rfl, rfl, by decide +kernel, (fun h => by cases h)⟩
theorem ty131_ok : TyOK Try.prog 131 ty131 := ⟨by kernel_rfl, (by show Try.prog.underlying 131 = some (.array 64 63); kernel_rfl), rfl, rfl, by decide +kernel, (fun h => by cases h)⟩
theorem ty137_ok : TyOK Try.prog 137 ty137 := ⟨by kernel_rfl, (by show Try.prog.underlying 137 = some (.slice 63); kernel_rfl), rfl, rfl, rfl, (fun _ => ⟨_, rfl, rfl⟩)⟩
theorem ty155_ok : TyOK Try.prog 155 ty155 := ⟨by kernel_rfl, (by show Try.prog.underlying 155 = some (.array 64 5); kernel_rfl), rfl, rfl, by decide +kernel, (fun h => by cases h)⟩
def capB (P : Program) (f : Nat) : Bool := match P.funcs[f]? with
  | some fn => !(fn.name == "runtime.NumGoroutine") && !fn.body.isNone
  | none => false
theorem cap_of {P : Program} {f : Nat} (h : capB P f = true) : callable P f := by
  unfold capB at h
  split at h
  · rename_i fn hf
    simp only [Bool.and_eq_true, Bool.not_eq_true'] at h
    exact ⟨fn, hf, h.1, h.2⟩
  · cases h
theorem caps_ok : ((List.range 95).filter (tab.has ·)).all (capB Try.prog) = true := by kernel_rfl
theorem has_lt {f : Nat} (hf : tab.has f = true) : f < 95 := by
  unfold Tab.has at hf
  cases h : Nat.blt f tab.nf with
  | false => rw [h] at hf; cases hf
  | true => simpa [tab] using h
theorem caps_all (f : Nat) (hf : tab.has f = true) : callable Try.prog f := cap_of (List.all_eq_true.1 caps_ok f (List.mem_filter.2 ⟨List.mem_range.2 (has_lt hf), hf⟩))
theorem look_cons {j : Nat} {x : TyI} {r : List (Nat × TyI)} {P : Program} (h0 : TyOK P j x) (hr : ∀ t i, look r t = some i → TyOK P t i) : ∀ t i, look ((j, x) :: r) t = some i → TyOK P t i := by
  intro t i h
  simp only [look] at h
  split at h
  · rename_i hb
    obtain rfl := Nat.eq_of_beq_eq_true hb
    obtain rfl := Option.some.inj h
    exact h0
  · exact hr t i h
theorem look_nil {P : Program} : ∀ t i, look [] t = some i → TyOK P t i := fun _ _ h => by cases h
theorem eq_cons {P : Program} {j m : Nat} {r : List (Nat × Nat)} (h0 : EqOK P j m) (hr : ∀ t n, eqLook r t = some n → EqOK P t n) : ∀ t n, eqLook ((j, m) :: r) t = some n → EqOK P t n := by
  intro t n h
  simp only [eqLook] at h
  split at h
  · rename_i hb
    obtain rfl := Nat.eq_of_beq_eq_true hb
    obtain rfl := Option.some.inj h
    exact h0
  · exact hr t n h
theorem eq_nil {P : Program} : ∀ t n, eqLook [] t = some n → EqOK P t n := fun _ _ h => by cases h
theorem tab_ok : TabOK Try.prog tab := ⟨(eq_cons eq30_ok (eq_cons eq44_ok (eq_cons eq84_ok eq_nil))), (look_cons ty2_ok (look_cons ty3_ok (look_cons ty4_ok (look_cons ty5_ok (look_cons ty9_ok (look_cons ty22_ok (look_cons ty23_ok (look_cons ty34_ok (look_cons ty25_ok (look_cons ty26_ok (look_cons ty30_ok (look_cons ty36_ok (look_cons ty42_ok (look_cons ty44_ok (look_cons ty45_ok (look_cons ty47_ok (look_cons ty53_ok (look_cons ty56_ok (look_cons ty63_ok (look_cons ty66_ok (look_cons ty68_ok (look_cons ty75_ok (look_cons ty77_ok (look_cons ty84_ok (look_cons ty91_ok (look_cons ty96_ok (look_cons ty99_ok (look_cons ty105_ok (look_cons ty106_ok (look_cons ty110_ok (look_cons ty119_ok (look_cons ty122_ok (look_cons ty124_ok (look_cons ty127_ok (look_cons ty130_ok (look_cons ty131_ok (look_cons ty137_ok (look_cons ty155_ok look_nil)))))))))))))))))))))))))))))))))))))), caps_all, by kernel_rfl⟩
def pl3_8 : Plan := .q 0 (.q 1 (.q 2 (.q 3 (.q 4 (.q 5 (.q 6 (.q 7 (.q 8 (.done)))))))))
def pl3_10 : Plan := .q 0 (.q 1 (.q 2 (.q 3 (.q 4 (.q 5 (.q 6 (.one 7 true (.q 8 (.q 9 (.q 10 (.q 11 (.q 12 (.done)))))))))))))
def pl3_23 : Plan := .q 0 (.q 1 (.q 2 (.q 3 (.q 4 (.q 5 (.q 6 (.done)))))))
def pl4_1 : Plan := .q 0 (.one 1 false (.one 2 true (.q 3 (.q 4 (.q 5 (.q 6 (.q 7 (.done))))))))
def pl5_3 : Plan := .q 0 (.q 1 (.q 3 (.q 4 (.q 5 (.q 6 (.one 2 false (.q 7 (.one 8 true (.q 9 (.q 10 (.done)))))))))))
def pl7_9 : Plan := .q 0 (.q 1 (.q 2 (.q 3 (.q 4 (.q 5 (.q 6 (.q 7 (.q 8 (.q 9 (.q 10 (.one 11 false (.one 12 true (.done)))))))))))))
def pl7_10 : Plan := .q 0 (.q 1 (.q 2 (.q 3 (.q 4 (.q 5 (.one 6 true (.done)))))))
def pl7_11 : Plan := .q 0 (.q 1 (.q 2 (.q 3 (.q 4 (.q 5 (.q 6 (.q 7 (.q 8 (.q 9 (.one 10 false (.one 11 true (.q 12 (.q 13 (.q 14 (.q 15 (.done))))))))))))))))
def pl15_1 : Plan := .q 0 (.q 1 (.q 2 (.q 3 (.q 4 (.q 5 (.q 6 (.q 7 (.q 8 (.one 9 true (.q 10 (.q 11 (.q 12 (.q 13 (.q 14 (.done)))))))))))))))
def pl30_1 : Plan := .q 0 (.q 1 (.q 2 (.q 3 (.q 4 (.q 5 (.q 6 (.q 7 (.q 8 (.q 9 (.q 10 (.done)))))))))))
def pl38_12 : Plan := .q 0 (.q 1 (.q 2 (.q 3 (.q 4 (.q 5 (.q 6 (.q 7 (.one 8 true (.done)))))))))
def pl44_1 : Plan := .q 0 (.q 1 (.q 2 (.q 3 (.q 4 (.q 5 (.two 6 (.one 7 false (.one 8 false (.one 9 true (.done)))) 7 (.one 6 false (.one 8 false (.one 9 true (.done))))))))))
def pl59_2 : Plan := .q 0 (.q 1 (.q 2 (.q 3 (.q 4 (.q 5 (.q 6 (.q 7 (.q 8 (.q 9 (.q 10 (.q 11 (.q 12 (.q 13 (.q 14 (.q 15 (.q 16 (.q 17 (.q 18 (.q 19 (.q 20 (.q 21 (.one 22 true (.done)))))))))))))))))))))))
def pl62_12 : Plan := .q 0 (.q 1 (.q 2 (.q 3 (.q 4 (.q 5 (.q 6 (.q 7 (.q 8 (.q 9 (.one 10 true (.one 11 true (.done))))))))))))
def pl65_4 : Plan := .q 0 (.q 1 (.q 2 (.q 3 (.q 4 (.q 5 (.q 6 (.q 7 (.q 8 (.q 9 (.q 10 (.one 11 true (.done))))))))))))
def pl69_12 : Plan := .q 0 (.q 1 (.q 2 (.q 3 (.q 4 (.q 5 (.q 6 (.one 7 true (.done))))))))
def pl76_9 : Plan := .q 0 (.q 1 (.q 2 (.q 3 (.q 4 (.q 5 (.q 6 (.q 7 (.q 8 (.q 9 (.q 10 (.q 11 (.q 12 (.q 13 (.q 14 (.q 15 (.q 16 (.q 17 (.q 18 (.one 19 true (.q 20 (.q 21 (.one 22 true (.done)))))))))))))))))))))))
def pl76_13 : Plan := .q 0 (.q 1 (.q 2 (.q 3 (.q 4 (.q 5 (.q 6 (.q 7 (.q 8 (.q 9 (.q 10 (.q 11 (.q 12 (.q 13 (.one 14 true (.q 15 (.q 16 (.one 17 true (.done))))))))))))))))))
def pl76_16 : Plan := .q 0 (.q 1 (.q 2 (.q 3 (.q 4 (.q 5 (.q 6 (.q 7 (.q 8 (.q 9 (.one 10 true (.done)))))))))))
def pl79_3 : Plan := .q 0 (.q 1 (.q 2 (.q 3 (.q 4 (.two 5 (.one 6 false (.one 7 true (.one 8 true (.done)))) 6 (.one 5 false (.one 7 true (.one 8 true (.done)))))))))
def pl79_7 : Plan := .q 0 (.q 1 (.q 2 (.q 3 (.one 4 true (.done)))))
def pl86_2 : Plan := .q 0 (.q 1 (.q 2 (.q 3 (.q 4 (.q 5 (.q 6 (.q 7 (.q 8 (.q 9 (.q 10 (.q 11 (.q 12 (.q 13 (.q 14 (.q 15 (.q 16 (.q 17 (.q 18 (.q 19 (.q 20 (.q 21 (.q 22 (.q 23 (.done))))))))))))))))))))))))
def pl86_6 : Plan := .q 0 (.q 1 (.q 2 (.q 3 (.q 4 (.q 5 (.q 6 (.q 7 (.q 8 (.q 9 (.q 10 (.q 11 (.q 12 (.q 13 (.q 14 (.q 15 (.q 16 (.q 17 (.q 18 (.q 19 (.q 20 (.q 21 (.q 22 (.done)))))))))))))))))))))))
def pl89_5 : Plan := .q 0 (.q 1 (.q 2 (.q 3 (.q 4 (.q 5 (.q 6 (.q 7 (.q 8 (.q 9 (.q 10 (.q 11 (.q 12 (.q 13 (.q 14 (.q 15 (.q 16 (.q 17 (.q 18 (.q 19 (.q 20 (.q 21 (.q 22 (.q 23 (.q 24 (.q 25 (.q 26 (.q 27 (.q 28 (.q 29 (.q 30 (.q 31 (.q 32 (.q 33 (.q 34 (.q 35 (.q 36 (.q 37 (.q 38 (.one 39 true (.done))))))))))))))))))))))))))))))))))))))))
def pl89_10 : Plan := .q 0 (.q 1 (.q 2 (.q 3 (.q 4 (.q 5 (.q 6 (.q 7 (.q 8 (.q 9 (.q 10 (.q 11 (.q 12 (.q 13 (.q 14 (.q 15 (.q 16 (.q 17 (.q 18 (.q 19 (.q 20 (.q 21 (.q 22 (.one 23 true (.done))))))))))))))))))))))))
end Go.Proofs.Ytnlheljpagpiiaa
