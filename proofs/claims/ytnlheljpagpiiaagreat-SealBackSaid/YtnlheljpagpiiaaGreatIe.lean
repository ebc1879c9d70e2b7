/-
  The law SealBack returns true; every input.
-/
import Derived.Test.YtnlheljpagpiiaaGreatId
set_option linter.unusedVariables false
set_option linter.unusedSimpArgs false
set_option maxRecDepth 100000
set_option maxHeartbeats 8000000
namespace Go.Proofs.YtnlheljpagpiiaaGreat
open Go
/-- A tag with a bit turned. -/
def turnB (t : List B8) (q r : Nat) : List B8 := t.set q (t.getD q 0 ^^^ (1#8 <<< r))
theorem turnB_len (t : List B8) (q r : Nat) : (turnB t q r).length = t.length := by unfold turnB; rw [List.length_set]
theorem turnB_ne {t : List B8} {q r : Nat} (hq : q < t.length) (hr : r < 8) : turnB t q r ≠ t := by
  intro h
  have h2 := congrArg (fun l => l[q]?) h
  unfold turnB at h2
  simp only [List.getElem?_set, hq, if_true, List.getElem?_eq_getElem] at h2
  rw [List.getD_eq_getElem?_getD, List.getElem?_eq_getElem hq] at h2
  simp only [Option.getD_some, Option.some.injEq] at h2
  have h3 := congrArg (fun x => BitVec.getLsbD x r) h2
  simp [BitVec.getLsbD_xor, BitVec.getLsbD_shiftLeft, hr] at h3
theorem holds_own {s : FrS} {key : List B8} (h16 : key.length = 16) (hok : s.untagged.ok) : holdsX (s.withTag (tagOf s key)) key = true := by
  unfold holdsX
  refine decide_eq_true ⟨⟨h16, hok⟩, ?_⟩
  unfold tagOf
  rw [coreBits_withTag]
  rfl
theorem holds_turned {s : FrS} {key : List B8} {t : List B8} (h : tagOf s key ≠ t) : holdsX (s.withTag t) key = false := by
  unfold holdsX
  refine decide_eq_false (fun h2 => h ?_)
  have h3 := h2.2
  unfold tagOf at h3 ⊢
  rw [coreBits_withTag] at h3
  exact h3
theorem openX_own {s : FrS} {key : List B8} (h16 : key.length = 16) (hok : s.untagged.ok) : openX (frameBytes (s.withTag (tagOf s key))) key = (s.withTag (tagOf s key), 0) := by
  have hg := get_frame (withTag_ok hok (tagOf_len s key))
  unfold openX
  rw [hg]
  dsimp only
  rw [if_pos rfl, if_pos (holds_own h16 hok)]
theorem openX_turned {s : FrS} {key : List B8} {t : List B8} (hok : s.untagged.ok) (hl : t.length = 8) (h : tagOf s key ≠ t) : openX (frameBytes (s.withTag t)) key = (FrS.zero, 13) := by
  have hg := get_frame (withTag_ok hok hl)
  unfold openX
  rw [hg]
  dsimp only
  rw [if_pos rfl, if_neg (by rw [holds_turned h]; decide)]
theorem frameBytes_le {s : FrS} (h : s.ok) : (frameBytes s).length ≤ 100 := by
  have hl := coreBits_len h
  have ht := (ok_nums h).1.2.1
  unfold frameBytes
  rw [fixB_len, pack_len, List.length_append, bytesBits_len, ht]
  omega
end Go.Proofs.YtnlheljpagpiiaaGreat
