/-
  Frames: all of a frame but its tag; a frame's bytes; the document; every input.
-/
import Derived.Test.YtnlheljpagpiiaaMj
set_option linter.unusedVariables false
set_option linter.unusedSimpArgs false
set_option maxRecDepth 100000
set_option maxHeartbeats 8000000
namespace Go.Proofs.Ytnlheljpagpiiaa
open Go
attribute [local irreducible] bitsOf shlOf shrOf pack numBits bytesBits coreBits crcSum
/-- The document's bits, and its writer. -/
abbrev eDB (b : Nat) (bs : List Bool) (r : List Value) (fr : Nat × Nat) : Ent := ⟨b, boolsV bs ++ r, 4, fr⟩
theorem ownV_isRow {t : TypeId} {A : Option Addr} {bs : List Bool} {C : Nat} {E : Hp} (h : OwnV t A (boolsV bs) C E) (h0 : bs ≠ []) : ∃ b r fr, Soft fr (boolsV bs ++ r).length ∧ A = some ⟨b, 0, none⟩ ∧ C = (boolsV bs ++ r).length ∧ E = [⟨b, boolsV bs ++ r, t, fr⟩] := by
  have hl : (boolsV bs).length = bs.length := List.length_map ..
  generalize boolsV bs = l at *
  cases h with
  | none =>
    exfalso
    apply h0
    apply List.eq_nil_of_length_eq_zero
    rw [List.length_nil] at hl
    omega
  | row b _ r fr hf => exact ⟨b, r, fr, hf, rfl, rfl, rfl⟩
theorem iBits_ne {x : Int} {w : Nat} (h : 0 < w) : iBits x w ≠ [] := fun e => by
  have := congrArg List.length e
  rw [iBits_len] at this
  rw [List.length_nil] at this
  omega
section
variable {G : Cx} {hs : Hp}
end
section
variable {G : Cx} {hs : Hp}
end
abbrev Fr.fineC (f : Fr) : Prop := (0 ≤ f.frm ∧ f.frm ≤ 7) ∧ (0 ≤ f.epoch ∧ f.epoch ≤ 65535) ∧ (0 ≤ f.index ∧ f.index ≤ 256) ∧ (0 ≤ f.round ∧ f.round ≤ 1048576) ∧ (0 ≤ f.start ∧ f.start ≤ 1048576) ∧ (0 ≤ f.view ∧ f.view ≤ 255) ∧ 0 ≤ f.stamp ∧ f.stamp ≤ 1099511627776 ∧ f.body.l.length ≤ 16
theorem untagged_c {f : Fr} (h : f.s.untagged.ok) : f.fineC ∧ f.right := ⟨⟨h.1.1, h.1.2.2⟩, h.2⟩
end Go.Proofs.Ytnlheljpagpiiaa
