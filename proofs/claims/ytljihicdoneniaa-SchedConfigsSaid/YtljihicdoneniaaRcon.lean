/-
  SchedConfigs holds: whatever the config and the number, the law returns true, and its arguments read as they did. No condition.
-/
import Derived.Test.YtljihicdoneniaaRows
import Derived.Test.YtljihicdoneniaaE
import Derived.Test.YtljihicdoneniaaLa
set_option linter.unusedVariables false
set_option linter.unusedSimpArgs false
namespace Go.Proofs.Ytljihicdoneniaa
open Go Go.ChangeShapes Go.WideShapes Go.RowKit Go.Deep Go.ChangeAt

theorem own_knob : ownKnob Try.prog.godebug = none := by kernel_rfl
theorem laid_out : laidOutB Try.prog = true := by kernel_rfl
theorem cfg_of_list {l : List Int} (hl : l.length = 10) (hw : ∀ x ∈ l, (Lit.int .i64 x).wf = true) : ∃ c : Cfg, c.In ∧ Value.agg (l.map (Value.int .i64)).toArray = c.v := by
  match l, hl with
  | [n, f, slot, delay, keys, e, win, rho, slew, cap], _ =>
    refine ⟨⟨n, f, slot, delay, keys, e, win, rho, slew, cap⟩, ⟨?_, ?_, ?_, ?_, ?_, ?_, ?_, ?_, ?_, ?_⟩, rfl⟩
    all_goals exact i64_of_wf (hw _ (by simp))
theorem cfg_of {H : Type} {enc : TypeId × Value → H} {w : World} {base b0 : Nat} {spare : Nat → Bool} {held : Bool} {v : Value} {d : DataW H} {p : List MemPlace}
    (hv : Value.okWide Try.prog w .any b0 23 v) (h : DataW.Trod enc Try.prog w base spare held 23 v d p) : ∃ c : Cfg, c.In ∧ v = c.v := by
  obtain ⟨l, rfl, hl, hw⟩ := ints_of_struct (k := .i64) Try.underlying23 (by kernel_rfl) (by kernel_rfl) (by
    intro i f hi
    match i, hi with
    | 0, hi => cases hi; exact Try.underlying3
    | 1, hi => cases hi; exact Try.underlying3
    | 2, hi => cases hi; exact Try.underlying3
    | 3, hi => cases hi; exact Try.underlying3
    | 4, hi => cases hi; exact Try.underlying3
    | 5, hi => cases hi; exact Try.underlying3
    | 6, hi => cases hi; exact Try.underlying3
    | 7, hi => cases hi; exact Try.underlying3
    | 8, hi => cases hi; exact Try.underlying3
    | 9, hi => cases hi; exact Try.underlying3
    | n + 10, hi => cases hi) hv h
  obtain ⟨c, h1, h2⟩ := cfg_of_list hl hw
  exact ⟨c, h1, h2⟩

set_option maxRecDepth 100000 in
theorem configs_lifted (os : Os) (started : os.Started) (H : Type) (enc : TypeId × Value → H) :
    ReturnsInHanded {} Try.checked os 3 .any (Rows.schedConfigsSpec.pre6 enc Try.prog Try.f3 Rows.schedConfigsRow.domain false) (Rows.schedConfigsSpec.post enc Try.prog Try.f3 false true false false) := by
  refine law_returns (C := Try.checked) (bt := 4) own_knob started (by kernel_rfl) Try.func3 laid_out ?_ rfl Try.underlying4 rfl ?_ ?_
    (ChangeSpec.witness6 (enc := enc) (C := Try.checked) false ⟨#[], #[.agg #[.int .i64 0, .int .i64 0, .int .i64 0, .int .i64 0, .int .i64 0, .int .i64 0, .int .i64 0, .int .i64 0, .int .i64 0, .int .i64 0], .int .i64 0], []⟩ 8 (by kernel_rfl) (by kernel_rfl) (by kernel_rfl) (by kernel_rfl)) ?_
  · intro t ht
    have ht : t ∈ [23, 3] := ht
    simp only [List.mem_cons, List.not_mem_nil, or_false] at ht
    rcases ht with rfl | rfl
    · exact ⟨by kernel_rfl, of_decide_eq_true (by kernel_rfl)⟩
    · exact ⟨by kernel_rfl, of_decide_eq_true (by kernel_rfl)⟩
  · intro ds hd
    match ds, hd with
    | [d1, d2], _ => exact ⟨rfl, rfl⟩
  · intro ds
    match ds with
    | [d1, d2] => rfl
    | [] => rfl
    | [_] => rfl
    | _ :: _ :: _ :: _ => rfl
  · intro W base args ds before hval hA
    rw [Try.params3] at hA hval
    obtain ⟨v0, v1, d0, d1, p0, p1, rfl, rfl, rfl, h0, h1⟩ := trodAll_two hA
    obtain ⟨c, hc, rfl⟩ := cfg_of (hval 0 23 v0 rfl rfl) h0
    obtain ⟨i, rfl, rfl, rfl, wi⟩ := open_int Try.underlying3 (hval 1 3 v1 rfl rfl) h1
    exact configs_law hc i (i64_of_wf wi) W

/-- The statement. -/
theorem configs_said : Rows.SchedConfigsSaid :=
  OpenClaim.holds_of_wide 3 Try.f3 rfl rfl rfl rfl rfl rfl rfl ⟨rfl, rfl, rfl, rfl, rfl⟩ rfl rfl rfl rfl rfl (by kernel_rfl) Try.func3 (by kernel_rfl)
    (of_decide_eq_true (by kernel_rfl)) (by unfold Func.isWrapper; first | (rw [if_pos (by decide +kernel)]; kernel_rfl) | (rw [if_neg (by decide +kernel)]; exact ⟨rfl, rfl⟩))
    (fun os started H enc _ => configs_lifted os started H enc)
end Go.Proofs.Ytljihicdoneniaa
