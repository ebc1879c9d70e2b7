/-
  The types that the functions use, and that the program bears them (by program).
-/
import Derived.Test.YtljihicdoneniaaWk
import Derived.Test.YtljihicdoneniaaProg
import Derived.KernelRfl
set_option linter.unusedVariables false
set_option maxRecDepth 100000
namespace Go.Proofs.Ytljihicdoneniaa
def ty2 : TyI := ⟨.int .i64, 1, 8, [.int .i64 0], false⟩
def ty3 : TyI := ⟨.int .i64, 1, 8, [.int .i64 0], false⟩
def ty4 : TyI := ⟨.bool, 1, 1, [.bool false], false⟩
def ty23 : TyI := ⟨.struct [(0, 3), (1, 3), (2, 3), (3, 3), (4, 3), (5, 3), (6, 3), (7, 3), (8, 3), (9, 3)], 10, 80, List.replicate 10 (.int .i64 0), true⟩
def ty24 : TyI := ⟨.int .i64, 1, 8, [.int .i64 0], false⟩
def ty34 : TyI := ⟨.struct [(0, 3), (1, 3), (2, 3)], 3, 24, [.int .i64 0, .int .i64 0, .int .i64 0], true⟩
def ty53 : TyI := ⟨.struct [(0, 23), (10, 2), (11, 2), (12, 2)], 13, 104, List.replicate 13 (.int .i64 0), true⟩
def tab : Tab := ⟨[(2, ty2), (3, ty3), (4, ty4), (23, ty23), (24, ty24), (34, ty34), (53, ty53)], 31, [(23, 10), (34, 3)]⟩
theorem eq23_ok : EqOK Try.prog 23 10 := ⟨by kernel_rfl, by kernel_rfl, by kernel_rfl, by kernel_rfl, by kernel_rfl⟩
theorem eq34_ok : EqOK Try.prog 34 3 := ⟨by kernel_rfl, by kernel_rfl, by kernel_rfl, by kernel_rfl, by kernel_rfl⟩
def flds (P : Program) (t : Nat) : Array Field := match P.underlying t with
  | some (.struct a) => a
  | _ => #[]
theorem ty2_ok : TyOK Try.prog 2 ty2 := ⟨by kernel_rfl, (by show Try.prog.underlying 2 = some (.int .i64); kernel_rfl), rfl, rfl, rfl, (fun _ => ⟨_, rfl, rfl⟩)⟩
theorem ty3_ok : TyOK Try.prog 3 ty3 := ⟨by kernel_rfl, (by show Try.prog.underlying 3 = some (.int .i64); kernel_rfl), rfl, rfl, rfl, (fun _ => ⟨_, rfl, rfl⟩)⟩
theorem ty4_ok : TyOK Try.prog 4 ty4 := ⟨by kernel_rfl, (by show Try.prog.underlying 4 = some (.bool); kernel_rfl), rfl, rfl, rfl, (fun _ => ⟨_, rfl, rfl⟩)⟩
theorem ty23_ok : TyOK Try.prog 23 ty23 := ⟨by kernel_rfl, ⟨flds Try.prog 23, (by show Try.prog.underlying 23 = some (.struct (flds Try.prog 23)); kernel_rfl), by kernel_rfl, by kernel_rfl⟩, rfl, rfl, by decide +kernel, (fun h => by cases h)⟩
theorem ty24_ok : TyOK Try.prog 24 ty24 := ⟨by kernel_rfl, (by show Try.prog.underlying 24 = some (.int .i64); kernel_rfl), rfl, rfl, rfl, (fun _ => ⟨_, rfl, rfl⟩)⟩
theorem ty34_ok : TyOK Try.prog 34 ty34 := ⟨by kernel_rfl, ⟨flds Try.prog 34, (by show Try.prog.underlying 34 = some (.struct (flds Try.prog 34)); kernel_rfl), by kernel_rfl, by kernel_rfl⟩, rfl, rfl, rfl, (fun h => by cases h)⟩
theorem ty53_ok : TyOK Try.prog 53 ty53 := ⟨by kernel_rfl, ⟨flds Try.prog 53, (by show Try.prog.underlying 53 = some (.struct (flds Try.prog 53)); kernel_rfl), by kernel_rfl, by kernel_rfl⟩, rfl, rfl, by decide +kernel, (fun h => by cases h)⟩
def capB (P : Program) (f : Nat) : Bool := match P.funcs[f]? with
  | some fn => !(fn.name == "runtime.NumGoroutine") && !fn.body.isNone
  | none => false
theorem cap_of {P : Program} {f : Nat} (h : capB P f = true) : callable P f := by
  unfold capB at h
  split at h
  · rename_i fn hf
    simp only [Bool.and_eq_true, Bool.not_eq_true'] at h
    exact ⟨fn, hf, h.1, h.2⟩
  · cases h
theorem caps_ok : ((List.range 31).filter (tab.has ·)).all (capB Try.prog) = true := by kernel_rfl
theorem has_lt {f : Nat} (hf : tab.has f = true) : f < 31 := by
  unfold Tab.has at hf
  cases h : Nat.blt f tab.nf with
  | false => rw [h] at hf; cases hf
  | true => simpa [tab] using h
theorem caps_all (f : Nat) (hf : tab.has f = true) : callable Try.prog f := cap_of (List.all_eq_true.1 caps_ok f (List.mem_filter.2 ⟨List.mem_range.2 (has_lt hf), hf⟩))
theorem look_cons {j : Nat} {x : TyI} {r : List (Nat × TyI)} {P : Program} (h0 : TyOK P j x) (hr : ∀ t i, look r t = some i → TyOK P t i) : ∀ t i, look ((j, x) :: r) t = some i → TyOK P t i := by
  intro t i h
  simp only [look] at h
  split at h
  · rename_i hb
    obtain rfl := Nat.eq_of_beq_eq_true hb
    obtain rfl := Option.some.inj h
    exact h0
  · exact hr t i h
theorem look_nil {P : Program} : ∀ t i, look [] t = some i → TyOK P t i := fun _ _ h => by cases h
theorem eq_cons {P : Program} {j m : Nat} {r : List (Nat × Nat)} (h0 : EqOK P j m) (hr : ∀ t n, eqLook r t = some n → EqOK P t n) : ∀ t n, eqLook ((j, m) :: r) t = some n → EqOK P t n := by
  intro t n h
  simp only [eqLook] at h
  split at h
  · rename_i hb
    obtain rfl := Nat.eq_of_beq_eq_true hb
    obtain rfl := Option.some.inj h
    exact h0
  · exact hr t n h
theorem eq_nil {P : Program} : ∀ t n, eqLook [] t = some n → EqOK P t n := fun _ _ h => by cases h
theorem tab_ok : TabOK Try.prog tab := ⟨(eq_cons eq23_ok (eq_cons eq34_ok eq_nil)), (look_cons ty2_ok (look_cons ty3_ok (look_cons ty4_ok (look_cons ty23_ok (look_cons ty24_ok (look_cons ty34_ok (look_cons ty53_ok look_nil))))))), caps_all, by kernel_rfl⟩
end Go.Proofs.Ytljihicdoneniaa
