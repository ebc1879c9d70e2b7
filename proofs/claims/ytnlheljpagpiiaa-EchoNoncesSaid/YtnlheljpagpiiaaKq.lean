/-
  Blocks picked out of what is known, in another order.
-/
import Derived.Test.YtnlheljpagpiiaaMd
set_option linter.unusedVariables false
namespace Go.Proofs.Ytnlheljpagpiiaa
open Go
/-- Some of what is known, in an order of one's own. -/
inductive Sel : Hp → Hp → Prop
  | sub {hs T : Hp} (h : List.Sublist T hs) : Sel hs T
  | comm {hs A B : Hp} (h : Sel hs (B ++ A)) : Sel hs (A ++ B)
  | cons {e : Ent} {hs r T : Hp} (h : Take e hs r) (h2 : Sel r T) : Sel hs (e :: T)
theorem Sel.rest {hs T : Hp} (h : Sel hs T) : ∃ R, hs.Perm (T ++ R) := by
  induction h with
  | sub h => exact ⟨_, (List.Sublist.exists_perm_append h).choose_spec⟩
  | comm _ ih =>
    obtain ⟨R, hR⟩ := ih
    exact ⟨R, hR.trans (List.Perm.append_right R List.perm_append_comm)⟩
  | cons h _ ih =>
    obtain ⟨R, hR⟩ := ih
    exact ⟨R, h.perm.trans (hR.cons _)⟩
theorem Sel.st {G : Cx} {hs T : Hp} {w : World} (h : Sel hs T) (hw : St G hs w) : St G T w := by
  obtain ⟨R, hR⟩ := h.rest
  exact (hw.perm hR).sub (List.sublist_append_left T R)
end Go.Proofs.Ytnlheljpagpiiaa
