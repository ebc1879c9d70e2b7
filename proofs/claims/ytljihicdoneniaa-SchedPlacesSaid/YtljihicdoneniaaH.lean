/-
  What the rows of Sched share: a config by value, opened.
-/
import Derived.Test.YtljihicdoneniaaRows
import Derived.Test.YtljihicdoneniaaA
import Derived.Test.YtljihicdoneniaaLa
set_option linter.unusedVariables false
set_option linter.unusedSimpArgs false
namespace Go.Proofs.Ytljihicdoneniaa
open Go Go.ChangeShapes Go.WideShapes Go.RowKit Go.Deep Go.ChangeAt

theorem own_knob : ownKnob Try.prog.godebug = none := by kernel_rfl
theorem laid_out : laidOutB Try.prog = true := by kernel_rfl
theorem cfg_of_list {l : List Int} (hl : l.length = 10) (hw : ∀ x ∈ l, (Lit.int .i64 x).wf = true) : ∃ c : Cfg, c.In ∧ Value.agg (l.map (Value.int .i64)).toArray = c.v := by
  match l, hl with
  | [n, f, slot, delay, keys, e, win, rho, slew, cap], _ =>
    refine ⟨⟨n, f, slot, delay, keys, e, win, rho, slew, cap⟩, ⟨?_, ?_, ?_, ?_, ?_, ?_, ?_, ?_, ?_, ?_⟩, rfl⟩
    all_goals exact i64_of_wf (hw _ (by simp))
theorem cfg_of {H : Type} {enc : TypeId × Value → H} {w : World} {base b0 : Nat} {spare : Nat → Bool} {held : Bool} {v : Value} {d : DataW H} {p : List MemPlace}
    (hv : Value.okWide Try.prog w .any b0 23 v) (h : DataW.Trod enc Try.prog w base spare held 23 v d p) : ∃ c : Cfg, c.In ∧ v = c.v := by
  obtain ⟨l, rfl, hl, hw⟩ := ints_of_struct (k := .i64) Try.underlying23 (by kernel_rfl) (by kernel_rfl) (by
    intro i f hi
    match i, hi with
    | 0, hi => cases hi; exact Try.underlying3
    | 1, hi => cases hi; exact Try.underlying3
    | 2, hi => cases hi; exact Try.underlying3
    | 3, hi => cases hi; exact Try.underlying3
    | 4, hi => cases hi; exact Try.underlying3
    | 5, hi => cases hi; exact Try.underlying3
    | 6, hi => cases hi; exact Try.underlying3
    | 7, hi => cases hi; exact Try.underlying3
    | 8, hi => cases hi; exact Try.underlying3
    | 9, hi => cases hi; exact Try.underlying3
    | n + 10, hi => cases hi) hv h
  obtain ⟨c, h1, h2⟩ := cfg_of_list hl hw
  exact ⟨c, h1, h2⟩

end Go.Proofs.Ytljihicdoneniaa
