/-
  Frames: what a tag is made of; a frame's bytes; the document; every input.
-/
import Derived.Test.YtnlheljpagpiiaaFg
set_option linter.unusedVariables false
set_option linter.unusedSimpArgs false
set_option maxRecDepth 100000
set_option maxHeartbeats 8000000
namespace Go.Proofs.Ytnlheljpagpiiaa
open Go
attribute [local irreducible] bitsOf shlOf shrOf pack numBits bytesBits coreBits crcSum
theorem ok_untagged {f : Fr} (h : f.s.ok) : f.s.untagged.ok := by
  have h' : f.ok := h
  exact ⟨⟨h'.1.1, rfl, h'.1.2.2⟩, h'.2⟩
section
variable {G : Cx} {hs : Hp}
end
end Go.Proofs.Ytnlheljpagpiiaa
