/-
  Digests: what a block makes of a state, in the document; every input.
-/
import Derived.Test.YtnlheljpagpiiaaSb
set_option linter.unusedVariables false
set_option linter.unusedSimpArgs false
set_option maxRecDepth 100000
set_option maxHeartbeats 4000000
namespace Go.Proofs.Ytnlheljpagpiiaa
open Go
attribute [local irreducible] bitsOf shlOf shrOf

/-- Bytes as a number, the first the greatest. -/
def loadW (l : List B8) (at_ : Nat) : Nat → BitVec 64
  | 0 => 0
  | i + 1 => loadW l at_ i <<< 8 ||| (l.getD (at_ + i) 0).setWidth 64
theorem be_eq (l : List B8) (t : Nat) : (loadW l (4 * t) 4).setWidth 32 = wordAt l t := by
  simp only [loadW, wordAt, be, Nat.add_zero]
  simp only [BitVec.shiftLeft_or_distrib, BitVec.setWidth_or, ← BitVec.shiftLeft_add]
  simp
/-- The first so many words of one added to those of another. -/
def sumTo (p s : List W32) (i : Nat) : List W32 := (List.range p.length).map fun k => if k < i then p.getD k 0 + s.getD k 0 else p.getD k 0
theorem sumTo_zero (p s : List W32) : sumTo p s 0 = p := by
  refine List.ext_getElem (by simp [sumTo]) fun k h1 h2 => ?_
  simp [sumTo, List.getElem?_eq_getElem h2]
theorem sumTo_get (p s : List W32) (i : Nat) (hi : i < p.length) : (sumTo p s i).getD i 0 = p.getD i 0 := by
  simp [sumTo, hi]
theorem sumTo_set (p s : List W32) (i : Nat) (hi : i < p.length) : (sumTo p s i).set i (p.getD i 0 + s.getD i 0) = sumTo p s (i + 1) := by
  refine List.ext_getElem (by simp [sumTo]) fun k h1 h2 => ?_
  simp only [sumTo, List.length_set, List.length_map, List.length_range] at h1
  simp only [sumTo, List.getElem_set, List.getElem_map, List.getElem_range]
  by_cases hk : i = k
  · subst hk; simp
  · rw [if_neg hk]
    by_cases h3 : k < i
    · rw [if_pos h3, if_pos (by omega)]
    · rw [if_neg h3, if_neg (by omega)]
theorem sumTo_len (p s : List W32) (i : Nat) : (sumTo p s i).length = p.length := by simp [sumTo]
theorem sumTo_list (p s : S8) : sumTo p.list s.list 8 = (s.plus p).list := by
  simp [sumTo, S8.list, S8.plus, List.range_succ, BitVec.add_comm]
theorem apw : ApT tab 137 137 63 ty63 := ⟨⟨_, rfl, rfl⟩, rfl, ⟨_, rfl, .inr ⟨_, rfl⟩⟩, by decide⟩
theorem apb : ApT tab 22 22 5 ty5 := ⟨⟨_, rfl, rfl⟩, rfl, ⟨_, rfl, .inr ⟨_, rfl⟩⟩, by decide⟩
end Go.Proofs.Ytnlheljpagpiiaa
