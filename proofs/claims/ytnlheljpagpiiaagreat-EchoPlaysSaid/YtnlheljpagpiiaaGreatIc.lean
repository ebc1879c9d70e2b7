/-
  The same frames? They are, where all their fields are; program and document; every input.
-/
import Derived.Test.YtnlheljpagpiiaaGreatIb
set_option linter.unusedVariables false
set_option linter.unusedSimpArgs false
set_option maxRecDepth 100000
set_option maxHeartbeats 8000000
namespace Go.Proofs.YtnlheljpagpiiaaGreat
open Go
attribute [local irreducible] bitsOf shlOf shrOf
theorem fsame_yes (f g : Fr) (h : f.s = g.s) (w : World) (hF : FAt w f) (hG : FAt w g) : Val Tryz.prog 22 [f.v, g.v] w (.bool true) := by
  obtain ⟨kind, frm, to, epoch, start, round, nonce, stamp, view, index, ⟨a1, l1, c1⟩, ⟨a2, l2, c2⟩, ⟨a3, l3, c3⟩⟩ := f
  obtain ⟨kind', frm', to', epoch', start', round', nonce', stamp', view', index', ⟨b1, m1, d1⟩, ⟨b2, m2, d2⟩, ⟨b3, m3, d3⟩⟩ := g
  simp only [FrS.mk.injEq] at h
  obtain ⟨rfl, rfl, rfl, rfl, rfl, rfl, rfl, rfl, rfl, rfl, rfl, rfl, rfl⟩ := h
  obtain ⟨F1, F2, F3⟩ := hF
  obtain ⟨G1, G2, G3⟩ := hG
  dsimp only at F1 F2 F3 G1 G2 G3
  refine val_vc tab_ok Tryz.func22 rfl rfl ?_
  repeat' ((try (conv => whnf)); (first | refine Pick.mk _ (conv_arg F1 (by simp) rfl) ?_ | refine Pick.mk _ (conv_arg F2 (by simp) rfl) ?_ | refine Pick.mk _ (conv_arg F3 (by simp) rfl) ?_ | refine Pick.mk _ (conv_arg G1 (by simp) rfl) ?_ | refine Pick.mk _ (conv_arg G2 (by simp) rfl) ?_ | refine Pick.mk _ (conv_arg G3 (by simp) rfl) ?_ | (refine Split.mk (fun hsplit => ?_) (fun hsplit => absurd rfl hsplit)) | refine Need.au ?_ | (refine Split.mk (fun hsplit => ?_) (fun hsplit => ?_) <;> (try simp only [List.cons.injEq, and_true, true_and, not_true_eq_false, not_false_eq_true] at hsplit) <;> try (exfalso; omega)) | refine Pick.au ?_ | refine store_au ?_ | refine Any.mk (fun _ => ?_) | refine Both.mk ?_ ?_)); all_goals (try (conv => whnf))
  exact Done.mk rfl
theorem rfsame_yes (f g : Fr) (h : f.s = g.s) (w : World) (hF : FAt w f) (hG : FAt w g) : Val Tryz.prog 20 [f.v, g.v] w (.bool true) := by
  obtain ⟨kind, frm, to, epoch, start, round, nonce, stamp, view, index, ⟨a1, l1, c1⟩, ⟨a2, l2, c2⟩, ⟨a3, l3, c3⟩⟩ := f
  obtain ⟨kind', frm', to', epoch', start', round', nonce', stamp', view', index', ⟨b1, m1, d1⟩, ⟨b2, m2, d2⟩, ⟨b3, m3, d3⟩⟩ := g
  simp only [FrS.mk.injEq] at h
  obtain ⟨rfl, rfl, rfl, rfl, rfl, rfl, rfl, rfl, rfl, rfl, rfl, rfl, rfl⟩ := h
  obtain ⟨F1, F2, F3⟩ := hF
  obtain ⟨G1, G2, G3⟩ := hG
  dsimp only at F1 F2 F3 G1 G2 G3
  refine val_vc tab_ok Tryz.func20 rfl rfl ?_
  simp only [List.append]
  repeat' ((try (conv => whnf)); (first | refine Pick.mk _ (conv_arg F1 (by simp) rfl) ?_ | refine Pick.mk _ (conv_arg F2 (by simp) rfl) ?_ | refine Pick.mk _ (conv_arg F3 (by simp) rfl) ?_ | refine Pick.mk _ (conv_arg G1 (by simp) rfl) ?_ | refine Pick.mk _ (conv_arg G2 (by simp) rfl) ?_ | refine Pick.mk _ (conv_arg G3 (by simp) rfl) ?_ | (refine Split.mk (fun hsplit => ?_) (fun hsplit => absurd rfl hsplit)) | refine Need.au ?_ | (refine Split.mk (fun hsplit => ?_) (fun hsplit => ?_) <;> (try simp only [List.cons.injEq, and_true, true_and, not_true_eq_false, not_false_eq_true] at hsplit) <;> try (exfalso; omega)) | refine Pick.au ?_ | refine store_au ?_ | refine Any.mk (fun _ => ?_) | refine Both.mk ?_ ?_)); all_goals (try (conv => whnf))
  exact Done.mk rfl
end Go.Proofs.YtnlheljpagpiiaaGreat
