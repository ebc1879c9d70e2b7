/-
  A frame of bytes, opened with a key; program and document; every input.
-/
import Derived.Test.YtnlheljpagpiiaaIa
set_option linter.unusedVariables false
set_option linter.unusedSimpArgs false
set_option maxRecDepth 100000
set_option maxHeartbeats 8000000
namespace Go.Proofs.Ytnlheljpagpiiaa
open Go
section
variable {G : Cx} {hs : Hp}
theorem fown_at {f : Fr} {E : Hp} {w : World} (h : FOwn f E) (hE : List.Sublist E hs) (hw : St G hs w) : FAt w f := by
  obtain ⟨E1, E2, E3, h1, h2, h3, rfl⟩ := h
  exact ⟨ownK_at (own_k h1) (((List.sublist_append_left _ _).trans (List.sublist_append_left _ _)).trans hE) hw, ownK_at (own_k h2) (((List.sublist_append_right _ _).trans (List.sublist_append_left _ _)).trans hE) hw, ownK_at (own_k h3) ((List.sublist_append_right _ _).trans hE) hw⟩
theorem CallVC.givesF {f : Nat} {args : List Value} {K : Value → Hp → Prop} {s : FrS} {e : Int} (hc : ∀ w, St G hs w → Ret G.P f args w (GivesF (s, e)))
    (hk : ∀ f E, f.s = s → FOwn f E → K (.tuple #[f.v, .int .i64 e]) (hs ++ E)) : CallVC G hs f args K := by
  refine ⟨K, fun w hw => (hc w hw).calls.mono ?_, fun _ _ h => h⟩
  rintro e' w' ⟨v, hs2, rfl, ⟨f, E, rfl, h1, h2, hsub⟩, hst⟩
  exact ⟨_, hs ++ E, rfl, hk f E h1 h2, ((hw.trans hst).sub (hsub.append_right hs)).perm List.perm_append_comm⟩
end
/-- What an opened frame is. -/
def openX (l key : List B8) : FrS × Int := if (getX l).2 = 0 then (if holdsX (getX l).1 key = true then ((getX l).1, 0) else (FrS.zero, 13)) else (FrS.zero, (getX l).2)
theorem getX_err {l : List B8} (h : (getX l).2 ≠ 0) : (getX l).2 = 3 ∨ (getX l).2 = 4 ∨ (getX l).2 = 8 := by
  unfold getX at h ⊢
  split
  · exact .inl rfl
  · rename_i h1
    split
    · rename_i h2
      split
      · rename_i h3
        rw [if_neg h1, if_pos h2, if_pos h3] at h
        exact absurd rfl h
      · exact .inr (.inl rfl)
    · exact .inr (.inr rfl)
attribute [local irreducible] bitsOf shlOf shrOf pack numBits bytesBits coreBits crcSum tagOf macKey FrS.ok frameBytes sealX getX holdsX
/-- A frame that is handed back beside an error. -/
def GivesE2 (s : FrS) (ev : Value) (v : Value) (hs : Hp) : Prop := ∃ f E, v = .tuple #[f.v, ev] ∧ f.s = s ∧ FOwn f E ∧ List.Sublist E hs
theorem GivesE2.no {ev v : Value} {hs : Hp} (h : v = .tuple #[Fr.zero.v, ev]) : GivesE2 FrS.zero ev v hs := ⟨Fr.zero, [], h, rfl, ⟨[], [], [], Own.none, Own.none, Own.none, rfl⟩, List.nil_sublist _⟩
theorem CallVC.givesE2 {G : Cx} {hs : Hp} {f : Nat} {args : List Value} {K : Value → Hp → Prop} {s : FrS} {ev : Value} (hc : ∀ w, St G hs w → Ret G.P f args w (GivesE2 s ev))
    (hk : ∀ f E, f.s = s → FOwn f E → K (.tuple #[f.v, ev]) (hs ++ E)) : CallVC G hs f args K := by
  refine ⟨K, fun w hw => (hc w hw).calls.mono ?_, fun _ _ h => h⟩
  rintro e' w' ⟨v, hs2, rfl, ⟨f, E, rfl, h1, h2, hsub⟩, hst⟩
  exact ⟨_, hs ++ E, rfl, hk f E h1 h2, ((hw.trans hst).sub (hsub.append_right hs)).perm List.perm_append_comm⟩
end Go.Proofs.Ytnlheljpagpiiaa
