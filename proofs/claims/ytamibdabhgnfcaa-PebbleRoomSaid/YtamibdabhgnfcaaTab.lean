/-
  The types that the functions use, and that the program bears them (by program).
-/
import Derived.Test.YtamibdabhgnfcaaMd
import Derived.Test.YtamibdabhgnfcaaProg
import Derived.KernelRfl
set_option linter.unusedVariables false
set_option maxRecDepth 100000
namespace Go.Proofs.Ytamibdabhgnfcaa
def ty3 : TyI := ⟨.int .i64, 1, 8, [.int .i64 0], false⟩
def ty4 : TyI := ⟨.bool, 1, 1, [.bool false], false⟩
def ty5 : TyI := ⟨.int .u8, 1, 1, [.int .u8 0], false⟩
def ty9 : TyI := ⟨.str, 1, 16, [.string ByteArray.empty], false⟩
def ty22 : TyI := ⟨.slice 5, 1, 24, [.slice none 0 0], false⟩
def ty24 : TyI := ⟨.int .i64, 1, 8, [.int .i64 0], false⟩
def ty29 : TyI := ⟨.slice 22, 1, 24, [.slice none 0 0], false⟩
def ty43 : TyI := ⟨.ptr 53, 1, 8, [.pointer none], false⟩
def ty51 : TyI := ⟨.slice 66, 1, 24, [.slice none 0 0], false⟩
def ty66 : TyI := ⟨.struct [(0, 3), (1, 22)], 2, 32, [.int .i64 0, .slice none 0 0], true⟩
def ty53 : TyI := ⟨.struct [(0, 51), (1, 3), (2, 3), (3, 3), (4, 22)], 5, 72, [.slice none 0 0, .int .i64 0, .int .i64 0, .int .i64 0, .slice none 0 0], true⟩
def ty60 : TyI := ⟨.int .u64, 1, 8, [.int .u64 0], false⟩
def ty61 : TyI := ⟨.slice 60, 1, 24, [.slice none 0 0], false⟩
def ty75 : TyI := ⟨.int .u32, 1, 4, [.int .u32 0], false⟩
def ty76 : TyI := ⟨.int .u64, 1, 8, [.int .u64 0], false⟩
def ty77 : TyI := ⟨.slice 75, 1, 24, [.slice none 0 0], false⟩
def ty84 : TyI := ⟨.ptr 98, 1, 8, [.pointer none], false⟩
def ty93 : TyI := ⟨.ptr 109, 1, 8, [.pointer none], false⟩
def ty96 : TyI := ⟨.struct [(0, 93)], 1, 8, [.pointer none], true⟩
def ty98 : TyI := ⟨.struct [(0, 96), (1, 22)], 2, 32, [.pointer none, .slice none 0 0], true⟩
def ty99 : TyI := ⟨.arr 64 75, 64, 256, List.replicate 64 (.int .u32 0), true⟩
def ty106 : TyI := ⟨.arr 8 75, 8, 32, [.int .u32 0, .int .u32 0, .int .u32 0, .int .u32 0, .int .u32 0, .int .u32 0, .int .u32 0, .int .u32 0], true⟩
def ty109 : TyI := ⟨.struct [(0, 106), (8, 22), (9, 3), (10, 4)], 11, 72, [.int .u32 0, .int .u32 0, .int .u32 0, .int .u32 0, .int .u32 0, .int .u32 0, .int .u32 0, .int .u32 0, .slice none 0 0, .int .i64 0, .bool false], true⟩
def ty134 : TyI := ⟨.arr 64 5, 64, 64, List.replicate 64 (.int .u8 0), true⟩
def tab : Tab := ⟨[(3, ty3), (4, ty4), (5, ty5), (9, ty9), (22, ty22), (24, ty24), (29, ty29), (43, ty43), (51, ty51), (66, ty66), (53, ty53), (60, ty60), (61, ty61), (75, ty75), (76, ty76), (77, ty77), (84, ty84), (93, ty93), (96, ty96), (98, ty98), (99, ty99), (106, ty106), (109, ty109), (134, ty134)], 88, []⟩
def flds (P : Program) (t : Nat) : Array Field := match P.underlying t with
  | some (.struct a) => a
  | _ => #[]
theorem ty3_ok : TyOK Try.prog 3 ty3 := ⟨by kernel_rfl, (by show Try.prog.underlying 3 = some (.int .i64); kernel_rfl), rfl, rfl, rfl, (fun _ => ⟨_, rfl, rfl⟩)⟩
theorem ty4_ok : TyOK Try.prog 4 ty4 := ⟨by kernel_rfl, (by show Try.prog.underlying 4 = some (.bool); kernel_rfl), rfl, rfl, rfl, (fun _ => ⟨_, rfl, rfl⟩)⟩
theorem ty5_ok : TyOK Try.prog 5 ty5 := ⟨by kernel_rfl, (by show Try.prog.underlying 5 = some (.int .u8); kernel_rfl), rfl, rfl, rfl, (fun _ => ⟨_, rfl, rfl⟩)⟩
theorem ty9_ok : TyOK Try.prog 9 ty9 := ⟨by kernel_rfl, (by show Try.prog.underlying 9 = some (.string); kernel_rfl), rfl, rfl, rfl, (fun _ => ⟨_, rfl, rfl⟩)⟩
theorem ty22_ok : TyOK Try.prog 22 ty22 := ⟨by kernel_rfl, (by show Try.prog.underlying 22 = some (.slice 5); kernel_rfl), rfl, rfl, rfl, (fun _ => ⟨_, rfl, rfl⟩)⟩
theorem ty24_ok : TyOK Try.prog 24 ty24 := ⟨by kernel_rfl, (by show Try.prog.underlying 24 = some (.int .i64); kernel_rfl), rfl, rfl, rfl, (fun _ => ⟨_, rfl, rfl⟩)⟩
theorem ty29_ok : TyOK Try.prog 29 ty29 := ⟨by kernel_rfl, (by show Try.prog.underlying 29 = some (.slice 22); kernel_rfl), rfl, rfl, rfl, (fun _ => ⟨_, rfl, rfl⟩)⟩
theorem ty43_ok : TyOK Try.prog 43 ty43 := ⟨by kernel_rfl, (by show Try.prog.underlying 43 = some (.pointer 53); kernel_rfl), rfl, rfl, rfl, (fun _ => ⟨_, rfl, rfl⟩)⟩
theorem ty51_ok : TyOK Try.prog 51 ty51 := ⟨by kernel_rfl, (by show Try.prog.underlying 51 = some (.slice 66); kernel_rfl), rfl, rfl, rfl, (fun _ => ⟨_, rfl, rfl⟩)⟩
theorem ty66_ok : TyOK Try.prog 66 ty66 := ⟨by kernel_rfl, ⟨flds Try.prog 66, (by show Try.prog.underlying 66 = some (.struct (flds Try.prog 66)); kernel_rfl), by kernel_rfl, by kernel_rfl⟩, rfl, rfl, rfl, (fun h => by cases h)⟩
theorem ty53_ok : TyOK Try.prog 53 ty53 := ⟨by kernel_rfl, ⟨flds Try.prog 53, (by show Try.prog.underlying 53 = some (.struct (flds Try.prog 53)); kernel_rfl), by kernel_rfl, by kernel_rfl⟩, rfl, rfl, rfl, (fun h => by cases h)⟩
theorem ty60_ok : TyOK Try.prog 60 ty60 := ⟨by kernel_rfl, (by show Try.prog.underlying 60 = some (.int .u64); kernel_rfl), rfl, rfl, rfl, (fun _ => ⟨_, rfl, rfl⟩)⟩
theorem ty61_ok : TyOK Try.prog 61 ty61 := ⟨by kernel_rfl, (by show Try.prog.underlying 61 = some (.slice 60); kernel_rfl), rfl, rfl, rfl, (fun _ => ⟨_, rfl, rfl⟩)⟩
theorem ty75_ok : TyOK Try.prog 75 ty75 := ⟨by kernel_rfl, (by show Try.prog.underlying 75 = some (.int .u32); kernel_rfl), rfl, rfl, rfl, (fun _ => ⟨_, rfl, rfl⟩)⟩
theorem ty76_ok : TyOK Try.prog 76 ty76 := ⟨by kernel_rfl, (by show Try.prog.underlying 76 = some (.int .u64); kernel_rfl), rfl, rfl, rfl, (fun _ => ⟨_, rfl, rfl⟩)⟩
theorem ty77_ok : TyOK Try.prog 77 ty77 := ⟨by kernel_rfl, (by show Try.prog.underlying 77 = some (.slice 75); kernel_rfl), rfl, rfl, rfl, (fun _ => ⟨_, rfl, rfl⟩)⟩
theorem ty84_ok : TyOK Try.prog 84 ty84 := ⟨by kernel_rfl, (by show Try.prog.underlying 84 = some (.pointer 98); kernel_rfl), rfl, rfl, rfl, (fun _ => ⟨_, rfl, rfl⟩)⟩
theorem ty93_ok : TyOK Try.prog 93 ty93 := ⟨by kernel_rfl, (by show Try.prog.underlying 93 = some (.pointer 109); kernel_rfl), rfl, rfl, rfl, (fun _ => ⟨_, rfl, rfl⟩)⟩
theorem ty96_ok : TyOK Try.prog 96 ty96 := ⟨by kernel_rfl, ⟨flds Try.prog 96, (by show Try.prog.underlying 96 = some (.struct (flds Try.prog 96)); kernel_rfl), by kernel_rfl, by kernel_rfl⟩, rfl, rfl, rfl, (fun h => by cases h)⟩
theorem ty98_ok : TyOK Try.prog 98 ty98 := ⟨by kernel_rfl, ⟨flds Try.prog 98, (by show Try.prog.underlying 98 = some (.struct (flds Try.prog 98)); kernel_rfl), by kernel_rfl, by kernel_rfl⟩, rfl, rfl, rfl, (fun h => by cases h)⟩
theorem ty99_ok : TyOK Try.prog 99 ty99 := ⟨by kernel_rfl, (by show Try.prog.underlying 99 = some (.array 64 75); kernel_rfl), rfl, rfl, by decide +kernel, (fun h => by cases h)⟩
theorem ty106_ok : TyOK Try.prog 106 ty106 := ⟨by kernel_rfl, (by show Try.prog.underlying 106 = some (.array 8 75); kernel_rfl), rfl, rfl, rfl, (fun h => by cases h)⟩
theorem ty109_ok : TyOK Try.prog 109 ty109 := ⟨by kernel_rfl, ⟨flds Try.prog 109, (by show Try.prog.underlying 109 = some (.struct (flds Try.prog 109)); kernel_rfl), by kernel_rfl, by kernel_rfl⟩, rfl, rfl, by decide +kernel, (fun h => by cases h)⟩
theorem ty134_ok : TyOK Try.prog 134 ty134 := ⟨by kernel_rfl, (by show Try.prog.underlying 134 = some (.array 64 5); kernel_rfl), rfl, rfl, by decide +kernel, (fun h => by cases h)⟩
def capB (P : Program) (f : Nat) : Bool := match P.funcs[f]? with
  | some fn => !(fn.name == "runtime.NumGoroutine") && !fn.body.isNone
  | none => false
theorem cap_of {P : Program} {f : Nat} (h : capB P f = true) : callable P f := by
  unfold capB at h
  split at h
  · rename_i fn hf
    simp only [Bool.and_eq_true, Bool.not_eq_true'] at h
    exact ⟨fn, hf, h.1, h.2⟩
  · cases h
theorem caps_ok : ((List.range 88).filter (tab.has ·)).all (capB Try.prog) = true := by kernel_rfl
theorem has_lt {f : Nat} (hf : tab.has f = true) : f < 88 := by
  unfold Tab.has at hf
  cases h : Nat.blt f tab.nf with
  | false => rw [h] at hf; cases hf
  | true => simpa [tab] using h
theorem caps_all (f : Nat) (hf : tab.has f = true) : callable Try.prog f := cap_of (List.all_eq_true.1 caps_ok f (List.mem_filter.2 ⟨List.mem_range.2 (has_lt hf), hf⟩))
theorem look_cons {j : Nat} {x : TyI} {r : List (Nat × TyI)} {P : Program} (h0 : TyOK P j x) (hr : ∀ t i, look r t = some i → TyOK P t i) : ∀ t i, look ((j, x) :: r) t = some i → TyOK P t i := by
  intro t i h
  simp only [look] at h
  split at h
  · rename_i hb
    obtain rfl := Nat.eq_of_beq_eq_true hb
    obtain rfl := Option.some.inj h
    exact h0
  · exact hr t i h
theorem look_nil {P : Program} : ∀ t i, look [] t = some i → TyOK P t i := fun _ _ h => by cases h
theorem eq_cons {P : Program} {j m : Nat} {r : List (Nat × Nat)} (h0 : EqOK P j m) (hr : ∀ t n, eqLook r t = some n → EqOK P t n) : ∀ t n, eqLook ((j, m) :: r) t = some n → EqOK P t n := by
  intro t n h
  simp only [eqLook] at h
  split at h
  · rename_i hb
    obtain rfl := Nat.eq_of_beq_eq_true hb
    obtain rfl := Option.some.inj h
    exact h0
  · exact hr t n h
theorem eq_nil {P : Program} : ∀ t n, eqLook [] t = some n → EqOK P t n := fun _ _ h => by cases h
theorem tab_ok : TabOK Try.prog tab := ⟨eq_nil, (look_cons ty3_ok (look_cons ty4_ok (look_cons ty5_ok (look_cons ty9_ok (look_cons ty22_ok (look_cons ty24_ok (look_cons ty29_ok (look_cons ty43_ok (look_cons ty51_ok (look_cons ty66_ok (look_cons ty53_ok (look_cons ty60_ok (look_cons ty61_ok (look_cons ty75_ok (look_cons ty76_ok (look_cons ty77_ok (look_cons ty84_ok (look_cons ty93_ok (look_cons ty96_ok (look_cons ty98_ok (look_cons ty99_ok (look_cons ty106_ok (look_cons ty109_ok (look_cons ty134_ok look_nil)))))))))))))))))))))))), caps_all, by kernel_rfl⟩
def pl3_14 : Plan := .q 0 (.q 1 (.q 2 (.q 3 (.q 4 (.q 5 (.q 6 (.q 7 (.q 8 (.q 9 (.q 10 (.done)))))))))))
def pl5_7 : Plan := .q 0 (.q 1 (.q 2 (.q 3 (.q 4 (.q 5 (.q 6 (.q 7 (.q 8 (.q 9 (.q 10 (.q 11 (.done))))))))))))
def pl5_9 : Plan := .q 0 (.q 1 (.q 2 (.q 3 (.q 4 (.q 5 (.q 6 (.q 7 (.q 8 (.q 9 (.q 10 (.q 11 (.q 12 (.q 13 (.q 14 (.q 15 (.q 16 (.q 17 (.q 18 (.q 19 (.q 20 (.q 21 (.q 22 (.q 23 (.q 24 (.q 25 (.q 26 (.q 27 (.q 28 (.q 29 (.q 30 (.q 31 (.q 32 (.q 33 (.q 34 (.done)))))))))))))))))))))))))))))))))))
def pl7_9 : Plan := .q 0 (.q 1 (.q 2 (.q 3 (.q 4 (.q 5 (.q 6 (.q 7 (.q 8 (.q 9 (.q 10 (.q 11 (.q 12 (.done)))))))))))))
def pl7_18 : Plan := .q 0 (.q 1 (.q 2 (.q 3 (.q 4 (.q 5 (.q 6 (.q 7 (.q 8 (.q 9 (.q 10 (.q 11 (.q 12 (.q 13 (.q 14 (.q 15 (.q 16 (.q 17 (.done))))))))))))))))))
def pl27_3 : Plan := .q 0 (.q 1 (.q 2 (.q 3 (.q 4 (.q 5 (.q 6 (.q 7 (.q 8 (.q 9 (.done))))))))))
def pl27_7 : Plan := .q 0 (.q 1 (.q 2 (.q 3 (.q 4 (.q 5 (.q 6 (.q 7 (.q 8 (.q 9 (.q 10 (.q 11 (.q 12 (.q 13 (.q 14 (.q 15 (.q 16 (.q 17 (.q 18 (.q 19 (.one 20 true (.done)))))))))))))))))))))
def pl38_7 : Plan := .q 0 (.q 1 (.q 2 (.q 3 (.q 4 (.q 5 (.q 6 (.q 7 (.q 8 (.q 9 (.q 10 (.one 11 true (.done))))))))))))
def pl40_2 : Plan := .q 0 (.q 1 (.q 2 (.q 3 (.q 4 (.q 5 (.q 6 (.q 7 (.q 8 (.q 9 (.q 10 (.q 11 (.one 12 false (.one 13 true (.done))))))))))))))
def pl40_5 : Plan := .q 0 (.q 1 (.q 2 (.q 3 (.q 4 (.q 5 (.q 6 (.q 7 (.q 8 (.q 9 (.q 10 (.q 11 (.q 12 (.q 13 (.q 14 (.q 15 (.q 16 (.one 17 false (.one 18 false (.q 19 (.q 20 (.one 21 true (.done))))))))))))))))))))))
def pl48_12 : Plan := .q 0 (.q 1 (.q 2 (.q 3 (.q 4 (.q 5 (.q 6 (.q 7 (.q 8 (.q 9 (.one 10 true (.one 11 true (.done))))))))))))
def pl50_5 : Plan := .q 0 (.q 1 (.q 2 (.q 3 (.q 4 (.q 5 (.q 6 (.q 7 (.q 8 (.q 9 (.q 10 (.q 11 (.q 12 (.q 13 (.q 14 (.q 15 (.q 16 (.q 17 (.q 18 (.q 19 (.q 20 (.q 21 (.q 22 (.q 23 (.one 24 true (.one 25 true (.one 26 true (.done)))))))))))))))))))))))))))
def pl62_13 : Plan := .q 0 (.q 1 (.q 2 (.q 3 (.q 4 (.q 5 (.q 6 (.q 7 (.q 8 (.q 9 (.q 10 (.q 11 (.q 12 (.q 13 (.q 14 (.q 15 (.q 16 (.q 17 (.q 18 (.q 19 (.q 20 (.q 21 (.q 22 (.one 23 true (.done))))))))))))))))))))))))
def pl62_20 : Plan := .q 0 (.q 1 (.q 2 (.q 3 (.q 4 (.q 5 (.q 6 (.q 7 (.q 8 (.q 9 (.q 10 (.q 11 (.q 12 (.q 13 (.q 14 (.q 15 (.q 16 (.q 17 (.q 18 (.q 19 (.q 20 (.q 21 (.q 22 (.q 23 (.q 24 (.q 25 (.q 26 (.q 27 (.done))))))))))))))))))))))))))))
def pl62_21 : Plan := .q 0 (.q 1 (.q 2 (.q 3 (.q 4 (.q 5 (.q 6 (.q 7 (.q 8 (.q 9 (.q 10 (.q 11 (.q 12 (.q 13 (.q 14 (.q 15 (.q 16 (.q 17 (.q 18 (.q 19 (.q 20 (.q 21 (.q 22 (.done)))))))))))))))))))))))
def pl62_22 : Plan := .q 0 (.q 1 (.q 2 (.q 3 (.q 4 (.q 5 (.q 6 (.q 7 (.q 8 (.q 9 (.q 10 (.q 11 (.q 12 (.q 13 (.q 14 (.q 15 (.q 16 (.q 17 (.q 18 (.q 19 (.q 20 (.q 21 (.one 22 true (.one 23 true (.done))))))))))))))))))))))))
def pl62_26 : Plan := .q 0 (.q 1 (.q 2 (.q 3 (.q 4 (.q 5 (.q 6 (.q 7 (.q 8 (.q 9 (.q 10 (.q 11 (.one 12 true (.done)))))))))))))
def pl65_9 : Plan := .q 0 (.q 1 (.q 2 (.q 3 (.q 4 (.q 5 (.q 6 (.q 7 (.q 8 (.q 9 (.q 10 (.q 11 (.q 12 (.q 13 (.q 14 (.q 15 (.q 16 (.q 17 (.q 18 (.one 19 true (.q 20 (.q 21 (.one 22 true (.done)))))))))))))))))))))))
def pl65_13 : Plan := .q 0 (.q 1 (.q 2 (.q 3 (.q 4 (.q 5 (.q 6 (.q 7 (.q 8 (.q 9 (.q 10 (.q 11 (.q 12 (.q 13 (.one 14 true (.q 15 (.q 16 (.one 17 true (.done))))))))))))))))))
def pl65_16 : Plan := .q 0 (.q 1 (.q 2 (.q 3 (.q 4 (.q 5 (.q 6 (.q 7 (.q 8 (.q 9 (.one 10 true (.done)))))))))))
def pl68_3 : Plan := .q 0 (.q 1 (.q 2 (.q 3 (.q 4 (.two 5 (.one 6 false (.one 7 true (.one 8 true (.done)))) 6 (.one 5 false (.one 7 true (.one 8 true (.done)))))))))
def pl68_7 : Plan := .q 0 (.q 1 (.q 2 (.q 3 (.one 4 true (.done)))))
def pl77_2 : Plan := .q 0 (.q 1 (.q 2 (.q 3 (.q 4 (.q 5 (.q 6 (.q 7 (.q 8 (.q 9 (.q 10 (.q 11 (.q 12 (.q 13 (.q 14 (.q 15 (.q 16 (.q 17 (.q 18 (.q 19 (.q 20 (.q 21 (.q 22 (.q 23 (.done))))))))))))))))))))))))
def pl77_6 : Plan := .q 0 (.q 1 (.q 2 (.q 3 (.q 4 (.q 5 (.q 6 (.q 7 (.q 8 (.q 9 (.q 10 (.q 11 (.q 12 (.q 13 (.q 14 (.q 15 (.q 16 (.q 17 (.q 18 (.q 19 (.q 20 (.q 21 (.q 22 (.done)))))))))))))))))))))))
def pl81_1 : Plan := .q 0 (.q 1 (.q 2 (.q 3 (.q 4 (.q 5 (.q 6 (.q 7 (.q 8 (.done)))))))))
def pl82_5 : Plan := .q 0 (.q 1 (.q 2 (.q 3 (.q 4 (.q 5 (.q 6 (.q 7 (.q 8 (.q 9 (.q 10 (.q 11 (.q 12 (.q 13 (.q 14 (.q 15 (.q 16 (.q 17 (.q 18 (.q 19 (.q 20 (.q 21 (.q 22 (.q 23 (.q 24 (.q 25 (.q 26 (.q 27 (.q 28 (.q 29 (.q 30 (.q 31 (.q 32 (.q 33 (.q 34 (.q 35 (.q 36 (.q 37 (.q 38 (.one 39 true (.done))))))))))))))))))))))))))))))))))))))))
def pl82_10 : Plan := .q 0 (.q 1 (.q 2 (.q 3 (.q 4 (.q 5 (.q 6 (.q 7 (.q 8 (.q 9 (.q 10 (.q 11 (.q 12 (.q 13 (.q 14 (.q 15 (.q 16 (.q 17 (.q 18 (.q 19 (.q 20 (.q 21 (.q 22 (.one 23 true (.done))))))))))))))))))))))))
end Go.Proofs.Ytamibdabhgnfcaa
