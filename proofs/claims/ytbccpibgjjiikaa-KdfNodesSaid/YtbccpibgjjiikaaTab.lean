/-
  The types that the functions use, and that the program bears them (by program).
-/
import Derived.Test.YtbccpibgjjiikaaMd
import Derived.Test.YtbccpibgjjiikaaProg
import Derived.KernelRfl
set_option linter.unusedVariables false
set_option maxRecDepth 100000
namespace Go.Proofs.Ytbccpibgjjiikaa
def ty3 : TyI := ⟨.int .i64, 1, 8, [.int .i64 0], false⟩
def ty4 : TyI := ⟨.bool, 1, 1, [.bool false], false⟩
def ty5 : TyI := ⟨.int .u8, 1, 1, [.int .u8 0], false⟩
def ty9 : TyI := ⟨.str, 1, 16, [.string ByteArray.empty], false⟩
def ty22 : TyI := ⟨.slice 5, 1, 24, [.slice none 0 0], false⟩
def ty23 : TyI := ⟨.slice 22, 1, 24, [.slice none 0 0], false⟩
def ty25 : TyI := ⟨.ptr 65, 1, 8, [.pointer none], false⟩
def ty26 : TyI := ⟨.int .i64, 1, 8, [.int .i64 0], false⟩
def ty43 : TyI := ⟨.slice 70, 1, 24, [.slice none 0 0], false⟩
def ty70 : TyI := ⟨.int .u64, 1, 8, [.int .u64 0], false⟩
def ty47 : TyI := ⟨.int .u16, 1, 2, [.int .u16 0], false⟩
def ty60 : TyI := ⟨.ptr 80, 1, 8, [.pointer none], false⟩
def ty63 : TyI := ⟨.struct [(0, 60)], 1, 8, [.pointer none], true⟩
def ty65 : TyI := ⟨.struct [(0, 63), (1, 22)], 2, 32, [.pointer none, .slice none 0 0], true⟩
def ty75 : TyI := ⟨.int .u32, 1, 4, [.int .u32 0], false⟩
def ty77 : TyI := ⟨.arr 8 75, 8, 32, [.int .u32 0, .int .u32 0, .int .u32 0, .int .u32 0, .int .u32 0, .int .u32 0, .int .u32 0, .int .u32 0], true⟩
def ty80 : TyI := ⟨.struct [(0, 77), (8, 22), (9, 3), (10, 4)], 11, 72, [.int .u32 0, .int .u32 0, .int .u32 0, .int .u32 0, .int .u32 0, .int .u32 0, .int .u32 0, .int .u32 0, .slice none 0 0, .int .i64 0, .bool false], true⟩
def ty81 : TyI := ⟨.arr 64 75, 64, 256, List.replicate 64 (.int .u32 0), true⟩
def ty88 : TyI := ⟨.slice 75, 1, 24, [.slice none 0 0], false⟩
def ty96 : TyI := ⟨.int .u64, 1, 8, [.int .u64 0], false⟩
def ty121 : TyI := ⟨.arr 64 5, 64, 64, List.replicate 64 (.int .u8 0), true⟩
def tab : Tab := ⟨[(3, ty3), (4, ty4), (5, ty5), (9, ty9), (22, ty22), (23, ty23), (25, ty25), (26, ty26), (43, ty43), (70, ty70), (47, ty47), (60, ty60), (63, ty63), (65, ty65), (75, ty75), (77, ty77), (80, ty80), (81, ty81), (88, ty88), (96, ty96), (121, ty121)], 81, []⟩
def flds (P : Program) (t : Nat) : Array Field := match P.underlying t with
  | some (.struct a) => a
  | _ => #[]
theorem ty3_ok : TyOK Try.prog 3 ty3 := ⟨by kernel_rfl, (by show Try.prog.underlying 3 = some (.int .i64); kernel_rfl), rfl, rfl, rfl, (fun _ => ⟨_, rfl, rfl⟩)⟩
theorem ty4_ok : TyOK Try.prog 4 ty4 := ⟨by kernel_rfl, (by show Try.prog.underlying 4 = some (.bool); kernel_rfl), rfl, rfl, rfl, (fun _ => ⟨_, rfl, rfl⟩)⟩
theorem ty5_ok : TyOK Try.prog 5 ty5 := ⟨by kernel_rfl, (by show Try.prog.underlying 5 = some (.int .u8); kernel_rfl), rfl, rfl, rfl, (fun _ => ⟨_, rfl, rfl⟩)⟩
theorem ty9_ok : TyOK Try.prog 9 ty9 := ⟨by kernel_rfl, (by show Try.prog.underlying 9 = some (.string); kernel_rfl), rfl, rfl, rfl, (fun _ => ⟨_, rfl, rfl⟩)⟩
theorem ty22_ok : TyOK Try.prog 22 ty22 := ⟨by kernel_rfl, (by show Try.prog.underlying 22 = some (.slice 5); kernel_rfl), rfl, rfl, rfl, (fun _ => ⟨_, rfl, rfl⟩)⟩
theorem ty23_ok : TyOK Try.prog 23 ty23 := ⟨by kernel_rfl, (by show Try.prog.underlying 23 = some (.slice 22); kernel_rfl), rfl, rfl, rfl, (fun _ => ⟨_, rfl, rfl⟩)⟩
theorem ty25_ok : TyOK Try.prog 25 ty25 := ⟨by kernel_rfl, (by show Try.prog.underlying 25 = some (.pointer 65); kernel_rfl), rfl, rfl, rfl, (fun _ => ⟨_, rfl, rfl⟩)⟩
theorem ty26_ok : TyOK Try.prog 26 ty26 := ⟨by kernel_rfl, (by show Try.prog.underlying 26 = some (.int .i64); kernel_rfl), rfl, rfl, rfl, (fun _ => ⟨_, rfl, rfl⟩)⟩
theorem ty43_ok : TyOK Try.prog 43 ty43 := ⟨by kernel_rfl, (by show Try.prog.underlying 43 = some (.slice 70); kernel_rfl), rfl, rfl, rfl, (fun _ => ⟨_, rfl, rfl⟩)⟩
theorem ty70_ok : TyOK Try.prog 70 ty70 := ⟨by kernel_rfl, (by show Try.prog.underlying 70 = some (.int .u64); kernel_rfl), rfl, rfl, rfl, (fun _ => ⟨_, rfl, rfl⟩)⟩
theorem ty47_ok : TyOK Try.prog 47 ty47 := ⟨by kernel_rfl, (by show Try.prog.underlying 47 = some (.int .u16); kernel_rfl), rfl, rfl, rfl, (fun _ => ⟨_, rfl, rfl⟩)⟩
theorem ty60_ok : TyOK Try.prog 60 ty60 := ⟨by kernel_rfl, (by show Try.prog.underlying 60 = some (.pointer 80); kernel_rfl), rfl, rfl, rfl, (fun _ => ⟨_, rfl, rfl⟩)⟩
theorem ty63_ok : TyOK Try.prog 63 ty63 := ⟨by kernel_rfl, ⟨flds Try.prog 63, (by show Try.prog.underlying 63 = some (.struct (flds Try.prog 63)); kernel_rfl), by kernel_rfl, by kernel_rfl⟩, rfl, rfl, rfl, (fun h => by cases h)⟩
theorem ty65_ok : TyOK Try.prog 65 ty65 := ⟨by kernel_rfl, ⟨flds Try.prog 65, (by show Try.prog.underlying 65 = some (.struct (flds Try.prog 65)); kernel_rfl), by kernel_rfl, by kernel_rfl⟩, rfl, rfl, rfl, (fun h => by cases h)⟩
theorem ty75_ok : TyOK Try.prog 75 ty75 := ⟨by kernel_rfl, (by show Try.prog.underlying 75 = some (.int .u32); kernel_rfl), rfl, rfl, rfl, (fun _ => ⟨_, rfl, rfl⟩)⟩
theorem ty77_ok : TyOK Try.prog 77 ty77 := ⟨by kernel_rfl, (by show Try.prog.underlying 77 = some (.array 8 75); kernel_rfl), rfl, rfl, rfl, (fun h => by cases h)⟩
theorem ty80_ok : TyOK Try.prog 80 ty80 := ⟨by kernel_rfl, ⟨flds Try.prog 80, (by show Try.prog.underlying 80 = some (.struct (flds Try.prog 80)); kernel_rfl), by kernel_rfl, by kernel_rfl⟩, rfl, rfl, by decide +kernel, (fun h => by cases h)⟩
theorem ty81_ok : TyOK Try.prog 81 ty81 := ⟨by kernel_rfl, (by show Try.prog.underlying 81 = some (.array 64 75); kernel_rfl), rfl, rfl, by decide +kernel, (fun h => by cases h)⟩
theorem ty88_ok : TyOK Try.prog 88 ty88 := ⟨by kernel_rfl, (by show Try.prog.underlying 88 = some (.slice 75); kernel_rfl), rfl, rfl, rfl, (fun _ => ⟨_, rfl, rfl⟩)⟩
theorem ty96_ok : TyOK Try.prog 96 ty96 := ⟨by kernel_rfl, (by show Try.prog.underlying 96 = some (.int .u64); kernel_rfl), rfl, rfl, rfl, (fun _ => ⟨_, rfl, rfl⟩)⟩
theorem ty121_ok : TyOK Try.prog 121 ty121 := ⟨by kernel_rfl, (by show Try.prog.underlying 121 = some (.array 64 5); kernel_rfl), rfl, rfl, by decide +kernel, (fun h => by cases h)⟩
def capB (P : Program) (f : Nat) : Bool := match P.funcs[f]? with
  | some fn => !(fn.name == "runtime.NumGoroutine") && !fn.body.isNone
  | none => false
theorem cap_of {P : Program} {f : Nat} (h : capB P f = true) : callable P f := by
  unfold capB at h
  split at h
  · rename_i fn hf
    simp only [Bool.and_eq_true, Bool.not_eq_true'] at h
    exact ⟨fn, hf, h.1, h.2⟩
  · cases h
theorem caps_ok : ((List.range 81).filter (tab.has ·)).all (capB Try.prog) = true := by kernel_rfl
theorem has_lt {f : Nat} (hf : tab.has f = true) : f < 81 := by
  unfold Tab.has at hf
  cases h : Nat.blt f tab.nf with
  | false => rw [h] at hf; cases hf
  | true => simpa [tab] using h
theorem caps_all (f : Nat) (hf : tab.has f = true) : callable Try.prog f := cap_of (List.all_eq_true.1 caps_ok f (List.mem_filter.2 ⟨List.mem_range.2 (has_lt hf), hf⟩))
theorem look_cons {j : Nat} {x : TyI} {r : List (Nat × TyI)} {P : Program} (h0 : TyOK P j x) (hr : ∀ t i, look r t = some i → TyOK P t i) : ∀ t i, look ((j, x) :: r) t = some i → TyOK P t i := by
  intro t i h
  simp only [look] at h
  split at h
  · rename_i hb
    obtain rfl := Nat.eq_of_beq_eq_true hb
    obtain rfl := Option.some.inj h
    exact h0
  · exact hr t i h
theorem look_nil {P : Program} : ∀ t i, look [] t = some i → TyOK P t i := fun _ _ h => by cases h
theorem eq_cons {P : Program} {j m : Nat} {r : List (Nat × Nat)} (h0 : EqOK P j m) (hr : ∀ t n, eqLook r t = some n → EqOK P t n) : ∀ t n, eqLook ((j, m) :: r) t = some n → EqOK P t n := by
  intro t n h
  simp only [eqLook] at h
  split at h
  · rename_i hb
    obtain rfl := Nat.eq_of_beq_eq_true hb
    obtain rfl := Option.some.inj h
    exact h0
  · exact hr t n h
theorem eq_nil {P : Program} : ∀ t n, eqLook [] t = some n → EqOK P t n := fun _ _ h => by cases h
theorem tab_ok : TabOK Try.prog tab := ⟨eq_nil, (look_cons ty3_ok (look_cons ty4_ok (look_cons ty5_ok (look_cons ty9_ok (look_cons ty22_ok (look_cons ty23_ok (look_cons ty25_ok (look_cons ty26_ok (look_cons ty43_ok (look_cons ty70_ok (look_cons ty47_ok (look_cons ty60_ok (look_cons ty63_ok (look_cons ty65_ok (look_cons ty75_ok (look_cons ty77_ok (look_cons ty80_ok (look_cons ty81_ok (look_cons ty88_ok (look_cons ty96_ok (look_cons ty121_ok look_nil))))))))))))))))))))), caps_all, by kernel_rfl⟩
def pl7_7 : Plan := .q 0 (.q 1 (.q 2 (.q 3 (.q 4 (.q 5 (.q 6 (.q 7 (.q 8 (.q 9 (.q 10 (.q 11 (.q 12 (.one 13 true (.done))))))))))))))
def pl10_7 : Plan := .q 0 (.q 1 (.q 2 (.q 3 (.q 4 (.q 5 (.q 6 (.q 7 (.q 8 (.q 9 (.q 10 (.q 11 (.q 12 (.q 13 (.q 14 (.q 15 (.q 16 (.q 17 (.q 18 (.q 19 (.q 20 (.q 21 (.q 22 (.q 23 (.q 24 (.q 25 (.q 26 (.q 27 (.q 28 (.q 29 (.q 30 (.q 31 (.q 32 (.q 33 (.q 34 (.q 35 (.done))))))))))))))))))))))))))))))))))))
def pl25_12 : Plan := .q 0 (.q 1 (.q 2 (.q 3 (.q 4 (.q 5 (.q 6 (.q 7 (.q 8 (.q 9 (.one 10 true (.one 11 true (.done))))))))))))
def pl41_9 : Plan := .q 0 (.q 1 (.q 2 (.q 3 (.q 4 (.q 5 (.q 6 (.q 7 (.q 8 (.q 9 (.q 10 (.q 11 (.q 12 (.q 13 (.q 14 (.q 15 (.q 16 (.q 17 (.q 18 (.one 19 true (.q 20 (.q 21 (.one 22 true (.done)))))))))))))))))))))))
def pl41_13 : Plan := .q 0 (.q 1 (.q 2 (.q 3 (.q 4 (.q 5 (.q 6 (.q 7 (.q 8 (.q 9 (.q 10 (.q 11 (.q 12 (.q 13 (.one 14 true (.q 15 (.q 16 (.one 17 true (.done))))))))))))))))))
def pl41_16 : Plan := .q 0 (.q 1 (.q 2 (.q 3 (.q 4 (.q 5 (.q 6 (.q 7 (.q 8 (.q 9 (.one 10 true (.done)))))))))))
def pl44_3 : Plan := .q 0 (.q 1 (.q 2 (.q 3 (.q 4 (.two 5 (.one 6 false (.one 7 true (.one 8 true (.done)))) 6 (.one 5 false (.one 7 true (.one 8 true (.done)))))))))
def pl44_7 : Plan := .q 0 (.q 1 (.q 2 (.q 3 (.one 4 true (.done)))))
def pl48_7 : Plan := .q 0 (.q 1 (.q 2 (.q 3 (.q 4 (.q 5 (.q 6 (.q 7 (.q 8 (.q 9 (.q 10 (.one 11 true (.done))))))))))))
def pl61_2 : Plan := .q 0 (.q 1 (.q 2 (.q 3 (.q 4 (.q 5 (.q 6 (.q 7 (.q 8 (.q 9 (.q 10 (.q 11 (.q 12 (.q 13 (.q 14 (.q 15 (.q 16 (.q 17 (.q 18 (.q 19 (.q 20 (.q 21 (.q 22 (.q 23 (.done))))))))))))))))))))))))
def pl61_6 : Plan := .q 0 (.q 1 (.q 2 (.q 3 (.q 4 (.q 5 (.q 6 (.q 7 (.q 8 (.q 9 (.q 10 (.q 11 (.q 12 (.q 13 (.q 14 (.q 15 (.q 16 (.q 17 (.q 18 (.q 19 (.q 20 (.q 21 (.q 22 (.done)))))))))))))))))))))))
def pl65_13 : Plan := .q 0 (.q 1 (.q 2 (.q 3 (.q 4 (.q 5 (.q 6 (.q 7 (.q 8 (.q 9 (.q 10 (.q 11 (.q 12 (.q 13 (.q 14 (.q 15 (.q 16 (.q 17 (.q 18 (.q 19 (.q 20 (.q 21 (.q 22 (.one 23 true (.done))))))))))))))))))))))))
def pl65_20 : Plan := .q 0 (.q 1 (.q 2 (.q 3 (.q 4 (.q 5 (.q 6 (.q 7 (.q 8 (.q 9 (.q 10 (.q 11 (.q 12 (.q 13 (.q 14 (.q 15 (.q 16 (.q 17 (.q 18 (.q 19 (.q 20 (.q 21 (.q 22 (.q 23 (.q 24 (.q 25 (.q 26 (.q 27 (.done))))))))))))))))))))))))))))
def pl65_21 : Plan := .q 0 (.q 1 (.q 2 (.q 3 (.q 4 (.q 5 (.q 6 (.q 7 (.q 8 (.q 9 (.q 10 (.q 11 (.q 12 (.q 13 (.q 14 (.q 15 (.q 16 (.q 17 (.q 18 (.q 19 (.q 20 (.q 21 (.q 22 (.done)))))))))))))))))))))))
def pl65_22 : Plan := .q 0 (.q 1 (.q 2 (.q 3 (.q 4 (.q 5 (.q 6 (.q 7 (.q 8 (.q 9 (.q 10 (.q 11 (.q 12 (.q 13 (.q 14 (.q 15 (.q 16 (.q 17 (.q 18 (.q 19 (.q 20 (.q 21 (.one 22 true (.one 23 true (.done))))))))))))))))))))))))
def pl65_26 : Plan := .q 0 (.q 1 (.q 2 (.q 3 (.q 4 (.q 5 (.q 6 (.q 7 (.q 8 (.q 9 (.q 10 (.q 11 (.one 12 true (.done)))))))))))))
def pl66_5 : Plan := .q 0 (.q 1 (.q 2 (.q 3 (.q 4 (.q 5 (.q 6 (.q 7 (.q 8 (.q 9 (.q 10 (.q 11 (.q 12 (.q 13 (.q 14 (.q 15 (.q 16 (.q 17 (.q 18 (.q 19 (.q 20 (.q 21 (.q 22 (.q 23 (.one 24 true (.one 25 true (.one 26 true (.done)))))))))))))))))))))))))))
def pl70_5 : Plan := .q 0 (.q 1 (.q 2 (.q 3 (.q 4 (.q 5 (.q 6 (.q 7 (.q 8 (.q 9 (.q 10 (.q 11 (.q 12 (.q 13 (.q 14 (.q 15 (.q 16 (.q 17 (.q 18 (.q 19 (.q 20 (.q 21 (.q 22 (.q 23 (.q 24 (.q 25 (.q 26 (.q 27 (.q 28 (.q 29 (.q 30 (.q 31 (.q 32 (.q 33 (.q 34 (.q 35 (.q 36 (.q 37 (.q 38 (.one 39 true (.done))))))))))))))))))))))))))))))))))))))))
def pl70_10 : Plan := .q 0 (.q 1 (.q 2 (.q 3 (.q 4 (.q 5 (.q 6 (.q 7 (.q 8 (.q 9 (.q 10 (.q 11 (.q 12 (.q 13 (.q 14 (.q 15 (.q 16 (.q 17 (.q 18 (.q 19 (.q 20 (.q 21 (.q 22 (.one 23 true (.done))))))))))))))))))))))))
def pl80_1 : Plan := .q 0 (.q 1 (.q 2 (.q 3 (.q 4 (.q 5 (.q 6 (.q 7 (.q 8 (.done)))))))))
end Go.Proofs.Ytbccpibgjjiikaa
