/-
  EchoZero holds: whatever the arguments, the law returns true, and they read as they did. No condition.
-/
import Derived.Test.YtnlheljpagpiiaaGreatRows
import Derived.Test.YtnlheljpagpiiaaGreatEz
import Derived.Test.YtnlheljpagpiiaaGreatLb
set_option linter.unusedVariables false
set_option linter.unusedSimpArgs false
namespace Go.Proofs.YtnlheljpagpiiaaGreat
open Go Go.ChangeShapes Go.WideShapes Go.RowKit Go.Deep Go.ChangeAt Go.ChangeMaps

set_option maxRecDepth 100000 in
theorem ezero_lifted (os : Os) (started : os.Started) (H : Type) (enc : TypeId × Value → H) :
    ReturnsInHanded {} Tryz.checked os 7 .any (Rows.echoZeroSpec.pre6 enc Tryz.prog Tryz.f7 Rows.echoZeroRow.domain false) (Rows.echoZeroSpec.post enc Tryz.prog Tryz.f7 false true false false) := by
  refine law_returns2 (C := Tryz.checked) (bt := 4) own_knob started (by kernel_rfl) Tryz.func7 laid_out ?_ rfl Tryz.underlying4 rfl ?_ ?_
    (ChangeSpec.witness6 (enc := enc) (C := Tryz.checked) false ⟨#[], #[.slice none 0 0], []⟩ 8 (by kernel_rfl) (by kernel_rfl) (by kernel_rfl) (by kernel_rfl)) ?_
  · intro t ht
    have ht : t ∈ [23] := ht
    simp only [List.mem_cons, List.not_mem_nil, or_false] at ht
    rcases ht with rfl
    all_goals exact ⟨by kernel_rfl, of_decide_eq_true (by kernel_rfl)⟩
  · intro ds hd
    match ds, hd with
    | [d0], _ => exact ⟨rfl, rfl⟩
  · intro ds
    match ds with
    | [d0] => rfl
    | [] => rfl
    | _ :: _ :: _ => rfl
  · intro W base args ds before hval hA hs
    rw [Tryz.params7] at hA hval hs
    obtain ⟨v0, d0, rfl, rfl, h0⟩ := trodAll_one hA
    obtain ⟨A0, l0, c0, rfl, x0⟩ := open_bytes Tryz.underlying23 Tryz.underlying5 (by kernel_rfl) (by kernel_rfl) hs (j := 0) rfl rfl (hval 0 23 v0 rfl rfl) h0
    exact ezero_law x0

/-- The statement. -/
theorem ezero_said : Rows.EchoZeroSaid :=
  OpenClaim.holds_of_wide 7 Tryz.f7 rfl rfl rfl rfl rfl rfl rfl ⟨rfl, rfl, rfl, rfl, rfl⟩ rfl rfl rfl rfl rfl (by kernel_rfl) Tryz.func7 (by kernel_rfl)
    (of_decide_eq_true (by kernel_rfl)) (by unfold Func.isWrapper; first | (rw [if_pos (by decide +kernel)]; kernel_rfl) | (rw [if_neg (by decide +kernel)]; exact ⟨rfl, rfl⟩))
    (fun os started H enc _ => ezero_lifted os started H enc)
end Go.Proofs.YtnlheljpagpiiaaGreat
