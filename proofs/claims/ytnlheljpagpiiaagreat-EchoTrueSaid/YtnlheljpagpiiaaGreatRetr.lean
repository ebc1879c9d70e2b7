/-
  EchoTrue holds: whatever the arguments, the law returns true, and they read as they did. No condition.
-/
import Derived.Test.YtnlheljpagpiiaaGreatRows
import Derived.Test.YtnlheljpagpiiaaGreatEo
import Derived.Test.YtnlheljpagpiiaaGreatLb
import Derived.Test.YtnlheljpagpiiaaGreatMv
set_option linter.unusedVariables false
set_option linter.unusedSimpArgs false
namespace Go.Proofs.YtnlheljpagpiiaaGreat
open Go Go.ChangeShapes Go.WideShapes Go.RowKit Go.Deep Go.ChangeAt Go.ChangeMaps

set_option maxRecDepth 100000 in
theorem echotrue_lifted (os : Os) (started : os.Started) (H : Type) (enc : TypeId × Value → H) :
    ReturnsInHanded {} Tryz.checked os 9 .any (Rows.echoTrueSpec.pre6 enc Tryz.prog Tryz.f9 Rows.echoTrueRow.domain false) (Rows.echoTrueSpec.post enc Tryz.prog Tryz.f9 false true false false) := by
  refine law_returns2 (C := Tryz.checked) (bt := 4) own_knob started (by kernel_rfl) Tryz.func9 laid_out ?_ rfl Tryz.underlying4 rfl ?_ ?_
    (ChangeSpec.witness6 (enc := enc) (C := Tryz.checked) false ⟨#[], #[.slice none 0 0, .int .i64 0, .slice none 0 0, .slice none 0 0], []⟩ 8 (by kernel_rfl) (by kernel_rfl) (by kernel_rfl) (by kernel_rfl)) ?_
  · intro t ht
    have ht : t ∈ [23, 2, 67, 67] := ht
    simp only [List.mem_cons, List.not_mem_nil, or_false] at ht
    rcases ht with rfl | rfl | rfl | rfl
    all_goals exact ⟨by kernel_rfl, of_decide_eq_true (by kernel_rfl)⟩
  · intro ds hd
    match ds, hd with
    | [d0, d1, d2, d3], _ => exact ⟨rfl, rfl⟩
  · intro ds
    match ds with
    | [d0, d1, d2, d3] => rfl
    | [] => rfl
    | [_] => rfl
    | [_, _] => rfl
    | [_, _, _] => rfl
    | _ :: _ :: _ :: _ :: _ :: _ => rfl
  · intro W base args ds before hval hA hs
    rw [Tryz.params9] at hA hval hs
    obtain ⟨v0, v1, v2, v3, d0, d1, d2, d3, p0, p1, p2, p3, rfl, rfl, rfl, h0, h1, h2, h3⟩ := trodAll_four hA
    obtain ⟨A0, l0, c0, rfl, x0⟩ := open_bytes Tryz.underlying23 Tryz.underlying5 (by kernel_rfl) (by kernel_rfl) hs (j := 0) rfl rfl (hval 0 23 v0 rfl rfl) h0
    obtain ⟨a1, rfl, rfl, rfl, w1⟩ := open_int Tryz.underlying2 (hval 1 2 v1 rfl rfl) h1
    obtain ⟨A2, l2, c2, rfl, x2⟩ := open_pairs Tryz.underlying67 Tryz.underlying69 Tryz.underlying68 (by kernel_rfl) (by kernel_rfl) (by kernel_rfl) hs (j := 2) rfl rfl (hval 2 67 v2 rfl rfl) h2
    obtain ⟨A3, l3, c3, rfl, x3⟩ := open_pairs Tryz.underlying67 Tryz.underlying69 Tryz.underlying68 (by kernel_rfl) (by kernel_rfl) (by kernel_rfl) hs (j := 3) rfl rfl (hval 3 67 v3 rfl rfl) h3
    exact true_law A0 l0 c0 a1 (i64_wf w1) A2 l2 c2 A3 l3 c3 W x0.cap x0.at_ x2 x3

/-- The statement. -/
theorem echotrue_said : Rows.EchoTrueSaid :=
  OpenClaim.holds_of_wide 9 Tryz.f9 rfl rfl rfl rfl rfl rfl rfl ⟨rfl, rfl, rfl, rfl, rfl⟩ rfl rfl rfl rfl rfl (by kernel_rfl) Tryz.func9 (by kernel_rfl)
    (of_decide_eq_true (by kernel_rfl)) (by unfold Func.isWrapper; first | (rw [if_pos (by decide +kernel)]; kernel_rfl) | (rw [if_neg (by decide +kernel)]; exact ⟨rfl, rfl⟩))
    (fun os started H enc _ => echotrue_lifted os started H enc)
end Go.Proofs.YtnlheljpagpiiaaGreat
