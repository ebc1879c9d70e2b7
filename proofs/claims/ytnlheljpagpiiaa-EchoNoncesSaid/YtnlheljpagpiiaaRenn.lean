/-
  EchoNonces holds: whatever the arguments, the law returns true, and they read as they did. No condition.
-/
import Derived.Test.YtnlheljpagpiiaaRows
import Derived.Test.YtnlheljpagpiiaaEt
import Derived.Test.YtnlheljpagpiiaaLb
set_option linter.unusedVariables false
set_option linter.unusedSimpArgs false
namespace Go.Proofs.Ytnlheljpagpiiaa
open Go Go.ChangeShapes Go.WideShapes Go.RowKit Go.Deep Go.ChangeAt Go.ChangeMaps

set_option maxRecDepth 100000 in
theorem echononces_lifted (os : Os) (started : os.Started) (H : Type) (enc : TypeId × Value → H) :
    ReturnsInHanded {} Try.checked os 3 .any (Rows.echoNoncesSpec.pre6 enc Try.prog Try.f3 Rows.echoNoncesRow.domain false) (Rows.echoNoncesSpec.post enc Try.prog Try.f3 false true false false) := by
  refine law_returns2 (C := Try.checked) (bt := 4) own_knob started (by kernel_rfl) Try.func3 laid_out ?_ rfl Try.underlying4 rfl ?_ ?_
    (ChangeSpec.witness6 (enc := enc) (C := Try.checked) false ⟨#[], #[.slice none 0 0, .slice none 0 0, .slice none 0 0], []⟩ 8 (by kernel_rfl) (by kernel_rfl) (by kernel_rfl) (by kernel_rfl)) ?_
  · intro t ht
    have ht : t ∈ [22, 22, 22] := ht
    simp only [List.mem_cons, List.not_mem_nil, or_false] at ht
    rcases ht with rfl | rfl | rfl
    all_goals exact ⟨by kernel_rfl, of_decide_eq_true (by kernel_rfl)⟩
  · intro ds hd
    match ds, hd with
    | [d0, d1, d2], _ => exact ⟨rfl, rfl⟩
  · intro ds
    match ds with
    | [d0, d1, d2] => rfl
    | [] => rfl
    | [_] => rfl
    | [_, _] => rfl
    | _ :: _ :: _ :: _ :: _ => rfl
  · intro W base args ds before hval hA hs
    rw [Try.params3] at hA hval hs
    obtain ⟨v0, v1, v2, d0, d1, d2, p0, p1, p2, rfl, rfl, rfl, h0, h1, h2⟩ := trodAll_three hA
    obtain ⟨A0, l0, c0, rfl, x0⟩ := open_bytes Try.underlying22 Try.underlying5 (by kernel_rfl) (by kernel_rfl) hs (j := 0) rfl rfl (hval 0 22 v0 rfl rfl) h0
    obtain ⟨A1, l1, c1, rfl, x1⟩ := open_bytes Try.underlying22 Try.underlying5 (by kernel_rfl) (by kernel_rfl) hs (j := 1) rfl rfl (hval 1 22 v1 rfl rfl) h1
    obtain ⟨A2, l2, c2, rfl, x2⟩ := open_bytes Try.underlying22 Try.underlying5 (by kernel_rfl) (by kernel_rfl) hs (j := 2) rfl rfl (hval 2 22 v2 rfl rfl) h2
    exact nonces_law A0 l0 c0 A1 l1 c1 A2 l2 c2 W x0.cap x0.at_ x1.at_ x2.at_

/-- The statement. -/
theorem echononces_said : Rows.EchoNoncesSaid :=
  OpenClaim.holds_of_wide 3 Try.f3 rfl rfl rfl rfl rfl rfl rfl ⟨rfl, rfl, rfl, rfl, rfl⟩ rfl rfl rfl rfl rfl (by kernel_rfl) Try.func3 (by kernel_rfl)
    (of_decide_eq_true (by kernel_rfl)) (by unfold Func.isWrapper; first | (rw [if_pos (by decide +kernel)]; kernel_rfl) | (rw [if_neg (by decide +kernel)]; exact ⟨rfl, rfl⟩))
    (fun os started H enc _ => echononces_lifted os started H enc)
end Go.Proofs.Ytnlheljpagpiiaa
