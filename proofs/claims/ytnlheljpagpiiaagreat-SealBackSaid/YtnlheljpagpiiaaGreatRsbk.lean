/-
  SealBack holds: whatever the arguments, the law returns true, and they read as they did. No condition.
-/
import Derived.Test.YtnlheljpagpiiaaGreatRows
import Derived.Test.YtnlheljpagpiiaaGreatIf
import Derived.Test.YtnlheljpagpiiaaGreatLb
import Derived.Test.YtnlheljpagpiiaaGreatLd
set_option linter.unusedVariables false
set_option linter.unusedSimpArgs false
namespace Go.Proofs.YtnlheljpagpiiaaGreat
open Go Go.ChangeShapes Go.WideShapes Go.RowKit Go.Deep Go.ChangeAt Go.ChangeMaps

set_option maxRecDepth 100000 in
theorem sealback_lifted (os : Os) (started : os.Started) (H : Type) (enc : TypeId × Value → H) :
    ReturnsInHanded {} Tryz.checked os 5 .any (Rows.sealBackSpec.pre6 enc Tryz.prog Tryz.f5 Rows.sealBackRow.domain false) (Rows.sealBackSpec.post enc Tryz.prog Tryz.f5 false true false false) := by
  refine law_returns2 (C := Tryz.checked) (bt := 4) own_knob started (by kernel_rfl) Tryz.func5 laid_out ?_ rfl Tryz.underlying4 rfl ?_ ?_
    (ChangeSpec.witness6 (enc := enc) (C := Tryz.checked) false ⟨#[], #[.agg #[.int .i64 0, .int .i64 0, .int .i64 0, .int .i64 0, .int .i64 0, .int .i64 0, .int .u64 0, .int .i64 0, .int .i64 0, .int .i64 0, .slice none 0 0, .slice none 0 0, .slice none 0 0], .slice none 0 0, .int .u8 0], []⟩ 8 (by kernel_rfl) (by kernel_rfl) (by kernel_rfl) (by kernel_rfl)) ?_
  · intro t ht
    have ht : t ∈ [25, 23, 5] := ht
    simp only [List.mem_cons, List.not_mem_nil, or_false] at ht
    rcases ht with rfl | rfl | rfl
    all_goals exact ⟨by kernel_rfl, of_decide_eq_true (by kernel_rfl)⟩
  · intro ds hd
    match ds, hd with
    | [d0, d1, d2], _ => exact ⟨rfl, rfl⟩
  · intro ds
    match ds with
    | [d0, d1, d2] => rfl
    | [] => rfl
    | [_] => rfl
    | [_, _] => rfl
    | _ :: _ :: _ :: _ :: _ => rfl
  · intro W base args ds before hval hA hs
    rw [Tryz.params5] at hA hval hs
    obtain ⟨v0, v1, v2, d0, d1, d2, p0, p1, p2, rfl, rfl, rfl, h0, h1, h2⟩ := trodAll_three hA
    obtain ⟨f0, rfl, x0⟩ := open_frame (hval 0 25 v0 rfl rfl) h0
    obtain ⟨A1, l1, c1, rfl, x1⟩ := open_bytes Tryz.underlying23 Tryz.underlying5 (by kernel_rfl) (by kernel_rfl) hs (j := 1) rfl rfl (hval 1 23 v1 rfl rfl) h1
    obtain ⟨a2, rfl, rfl, rfl, w2⟩ := open_int Tryz.underlying5 (hval 2 5 v2 rfl rfl) h2
    exact sealback_law f0 A1 l1 c1 a2 (u8_of_wf w2) W x0 x1.cap x1.at_

/-- The statement. -/
theorem sealback_said : Rows.SealBackSaid :=
  OpenClaim.holds_of_wide 5 Tryz.f5 rfl rfl rfl rfl rfl rfl rfl ⟨rfl, rfl, rfl, rfl, rfl⟩ rfl rfl rfl rfl rfl (by kernel_rfl) Tryz.func5 (by kernel_rfl)
    (of_decide_eq_true (by kernel_rfl)) (by unfold Func.isWrapper; first | (rw [if_pos (by decide +kernel)]; kernel_rfl) | (rw [if_neg (by decide +kernel)]; exact ⟨rfl, rfl⟩))
    (fun os started H enc _ => sealback_lifted os started H enc)
end Go.Proofs.YtnlheljpagpiiaaGreat
