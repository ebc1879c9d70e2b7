/-
  EchoOnce holds: whatever the arguments, the law returns true, and they read as they did. No condition.
-/
import Derived.Test.YtnlheljpagpiiaaGreatRows
import Derived.Test.YtnlheljpagpiiaaGreatMu
import Derived.Test.YtnlheljpagpiiaaGreatLb
set_option linter.unusedVariables false
set_option linter.unusedSimpArgs false
namespace Go.Proofs.YtnlheljpagpiiaaGreat
open Go Go.ChangeShapes Go.WideShapes Go.RowKit Go.Deep Go.ChangeAt Go.ChangeMaps

set_option maxRecDepth 100000 in
theorem echoonce_lifted (os : Os) (started : os.Started) (H : Type) (enc : TypeId × Value → H) :
    ReturnsInHanded {} Tryz.checked os 8 .any (Rows.echoOnceSpec.pre6 enc Tryz.prog Tryz.f8 Rows.echoOnceRow.domain false) (Rows.echoOnceSpec.post enc Tryz.prog Tryz.f8 false true false false) := by
  refine law_returns2 (C := Tryz.checked) (bt := 4) own_knob started (by kernel_rfl) Tryz.func8 laid_out ?_ rfl Tryz.underlying4 rfl ?_ ?_
    (ChangeSpec.witness6 (enc := enc) (C := Tryz.checked) false ⟨#[], #[.slice none 0 0, .int .u16 0, .bool false], []⟩ 8 (by kernel_rfl) (by kernel_rfl) (by kernel_rfl) (by kernel_rfl)) ?_
  · intro t ht
    have ht : t ∈ [23, 60, 4] := ht
    simp only [List.mem_cons, List.not_mem_nil, or_false] at ht
    rcases ht with rfl | rfl | rfl
    all_goals exact ⟨by kernel_rfl, of_decide_eq_true (by kernel_rfl)⟩
  · intro ds hd
    match ds, hd with
    | [d0, d1, d2], _ => exact ⟨rfl, rfl⟩
  · intro ds
    match ds with
    | [d0, d1, d2] => rfl
    | [] => rfl
    | [_] => rfl
    | [_, _] => rfl
    | _ :: _ :: _ :: _ :: _ => rfl
  · intro W base args ds before hval hA hs
    rw [Tryz.params8] at hA hval hs
    obtain ⟨v0, v1, v2, d0, d1, d2, p0, p1, p2, rfl, rfl, rfl, h0, h1, h2⟩ := trodAll_three hA
    obtain ⟨A0, l0, c0, rfl, x0⟩ := open_bytes Tryz.underlying23 Tryz.underlying5 (by kernel_rfl) (by kernel_rfl) hs (j := 0) rfl rfl (hval 0 23 v0 rfl rfl) h0
    obtain ⟨a1, rfl, rfl, rfl, w1⟩ := open_int Tryz.underlying60 (hval 1 60 v1 rfl rfl) h1
    obtain ⟨a2, rfl, rfl, rfl⟩ := open_bool Tryz.underlying4 (hval 2 4 v2 rfl rfl) h2
    exact once_law A0 l0 c0 a1 (u16_of_wf w1) a2 W x0.cap x0.at_

/-- The statement. -/
theorem echoonce_said : Rows.EchoOnceSaid :=
  OpenClaim.holds_of_wide 8 Tryz.f8 rfl rfl rfl rfl rfl rfl rfl ⟨rfl, rfl, rfl, rfl, rfl⟩ rfl rfl rfl rfl rfl (by kernel_rfl) Tryz.func8 (by kernel_rfl)
    (of_decide_eq_true (by kernel_rfl)) (by unfold Func.isWrapper; first | (rw [if_pos (by decide +kernel)]; kernel_rfl) | (rw [if_neg (by decide +kernel)]; exact ⟨rfl, rfl⟩))
    (fun os started H enc _ => echoonce_lifted os started H enc)
end Go.Proofs.YtnlheljpagpiiaaGreat
