/-
  SchedWaits holds: whatever the config and the node, the law returns true, and its arguments read as they did. No condition.
-/
import Derived.Test.YtljihicdoneniaaH
import Derived.Test.YtljihicdoneniaaF
set_option linter.unusedVariables false
set_option linter.unusedSimpArgs false
namespace Go.Proofs.Ytljihicdoneniaa
open Go Go.ChangeShapes Go.WideShapes Go.RowKit Go.Deep Go.ChangeAt

set_option maxRecDepth 100000 in
theorem waits_lifted (os : Os) (started : os.Started) (H : Type) (enc : TypeId × Value → H) :
    ReturnsInHanded {} Try.checked os 4 .any (Rows.schedWaitsSpec.pre6 enc Try.prog Try.f4 Rows.schedWaitsRow.domain false) (Rows.schedWaitsSpec.post enc Try.prog Try.f4 false true false false) := by
  refine law_returns (C := Try.checked) (bt := 4) own_knob started (by kernel_rfl) Try.func4 laid_out ?_ rfl Try.underlying4 rfl ?_ ?_
    (ChangeSpec.witness6 (enc := enc) (C := Try.checked) false ⟨#[], #[.agg #[.int .i64 0, .int .i64 0, .int .i64 0, .int .i64 0, .int .i64 0, .int .i64 0, .int .i64 0, .int .i64 0, .int .i64 0, .int .i64 0], .int .i64 0], []⟩ 8 (by kernel_rfl) (by kernel_rfl) (by kernel_rfl) (by kernel_rfl)) ?_
  · intro t ht
    have ht : t ∈ [23, 3] := ht
    simp only [List.mem_cons, List.not_mem_nil, or_false] at ht
    rcases ht with rfl | rfl
    all_goals exact ⟨by kernel_rfl, of_decide_eq_true (by kernel_rfl)⟩
  · intro ds hd
    match ds, hd with
    | [d0, d1], _ => exact ⟨rfl, rfl⟩
  · intro ds
    match ds with
    | [d0, d1] => rfl
    | [] => rfl
    | [_] => rfl
    | _ :: _ :: _ :: _ => rfl
  · intro W base args ds before hval hA
    rw [Try.params4] at hA hval
    obtain ⟨v0, v1, d0, d1, p0, p1, rfl, rfl, rfl, h0, h1⟩ := trodAll_two hA
    obtain ⟨c, hc, rfl⟩ := cfg_of (hval 0 23 v0 rfl rfl) h0
    obtain ⟨a1, rfl, rfl, rfl, w1⟩ := open_int Try.underlying3 (hval 1 3 v1 rfl rfl) h1
    exact waits_law hc a1 (i64_of_wf w1) W

/-- The statement. -/
theorem waits_said : Rows.SchedWaitsSaid :=
  OpenClaim.holds_of_wide 4 Try.f4 rfl rfl rfl rfl rfl rfl rfl ⟨rfl, rfl, rfl, rfl, rfl⟩ rfl rfl rfl rfl rfl (by kernel_rfl) Try.func4 (by kernel_rfl)
    (of_decide_eq_true (by kernel_rfl)) (by unfold Func.isWrapper; first | (rw [if_pos (by decide +kernel)]; kernel_rfl) | (rw [if_neg (by decide +kernel)]; exact ⟨rfl, rfl⟩))
    (fun os started H enc _ => waits_lifted os started H enc)
end Go.Proofs.Ytljihicdoneniaa
