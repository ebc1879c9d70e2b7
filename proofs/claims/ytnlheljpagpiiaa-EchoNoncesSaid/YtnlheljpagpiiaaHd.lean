/-
  The law SealTags returns true; every input. The program computes at all.
-/
import Derived.Test.YtnlheljpagpiiaaMn
set_option linter.unusedVariables false
set_option linter.unusedSimpArgs false
set_option maxRecDepth 100000
set_option maxHeartbeats 8000000
namespace Go.Proofs.Ytnlheljpagpiiaa
open Go
theorem withTag_ok {s : FrS} {t : List B8} (hok : s.untagged.ok) (ht : t.length = 8) : (s.withTag t).ok := ⟨⟨hok.1.1, ht, hok.1.2.2⟩, hok.2⟩
theorem seal_ok {s : FrS} {key : List B8} (h16 : key.length = 16) (hok : s.untagged.ok) : sealX s key = (frameBytes (s.withTag (tagOf s key)), 0) := by
  have h2 := withTag_ok hok (tagOf_len s key)
  unfold sealX putX
  rw [if_pos ⟨h16, hok⟩, if_pos h2]
theorem coreBits_withTag (s : FrS) (t : List B8) : coreBits (s.withTag t) = coreBits s := by unfold coreBits; rfl
theorem ping_len {s : FrS} (hk : s.kind = 2) (ht : s.tag.length = 8) : (frameBytes s).length = 21 := by
  have hc : (coreBits s).length = 76 := by
    unfold coreBits
    rw [if_neg (by omega), if_pos hk]
    simp only [pingBits, headBits, List.length_append, pBits_len, wSum]
  unfold frameBytes
  rw [fixB_len, pack_len, List.length_append, hc, bytesBits_len, ht]
/-- The frame that 'awake' seals. -/
def awF : Fr := ⟨2, 1, 2, 0, 0, 0, 3#64, 0, 0, 0, slNil, slNil, slNil⟩
def zero16 : List B8 := [0, 0, 0, 0, 0, 0, 0, 0, 0, 0, 0, 0, 0, 0, 0, 0]
theorem aw_ok : awF.s.untagged.ok := by
  show awF.s.untagged.fr.ok
  exact ⟨⟨by decide, rfl, by decide, by decide, by decide, by decide, by decide, by decide, by decide, by decide⟩, Or.inr (Or.inl ⟨rfl, ⟨rfl, rfl, rfl⟩, ⟨rfl, rfl⟩, ⟨by decide, by decide⟩, rfl, rfl, rfl⟩)⟩
attribute [local irreducible] bitsOf shlOf shrOf pack numBits bytesBits coreBits crcSum tagOf macKey FrS.ok frameBytes sealX
theorem conv_K {G : Cx} {hs E : Hp} {A : Option Addr} {xs : List B8} {n : Nat} (hO : OwnK A xs E) (hE : List.Sublist E hs) (hn : xs.length = n) : (nums xs).length = n ∧ (0 < n → ∃ ad, A = some ad ∧ G.cellsAre hs ad (bytesOf (nums xs))) := by
  cases hO with
  | none => subst hn; exact conv_nil
  | row b l r fr => exact conv_own (hE.subset (List.Mem.head _)) hn
end Go.Proofs.Ytnlheljpagpiiaa
