/-
  Bits in the document: a number's bits; every input. Bits in the document: bytes' bits, and bytes of all bits; every input.
-/
import Derived.Test.YtnlheljpagpiiaaMf
namespace Go.Proofs.Ytnlheljpagpiiaa
section
set_option linter.unusedVariables false
set_option linter.unusedSimpArgs false
set_option maxRecDepth 100000
set_option maxHeartbeats 8000000
open Go
attribute [local irreducible] bitsOf shlOf shrOf
/-- A row of values of the call's own, or none. -/
inductive OwnV (t : TypeId) : Option Addr → List Value → Nat → Hp → Prop
  | none : OwnV t none [] 0 []
  | row (b : Nat) (l : List Value) (r : List Value) (fr : Nat × Nat) (hf : Soft fr (l ++ r).length) : OwnV t (some ⟨b, 0, Option.none⟩) l (l ++ r).length [⟨b, l ++ r, t, fr⟩]
abbrev boolsV (bs : List Bool) : List Value := bs.map Value.bool
theorem and1_is (x : BitVec 64) (k : Nat) : ((x >>> k) &&& 1#64 = 1#64) ↔ x.getLsbD k = true := by
  rw [bit_is]
  cases x.getLsbD k <;> simp
theorem zbool_len (n : Nat) : (zerosL n ty4.zero).length = n := by
  show (List.replicate n _).length = n
  simp
theorem own1 {b2 c2 : Nat} (hc2 : 1 ≤ c2) (v : Value) : OwnV 4 (some ⟨b2, 0, none⟩) ([] ++ [v]) c2 [⟨b2, [v] ++ zerosL (c2 - 1) ty4.zero, 4, (0, 0)⟩] := by
  have h := OwnV.row (t := 4) b2 [v] (zerosL (c2 - 1) ty4.zero) (0, 0) soft0
  rw [show ([v] ++ zerosL (c2 - 1) ty4.zero).length = c2 by rw [List.length_append, zbool_len]; simp; omega] at h
  exact h
end
section
set_option linter.unusedVariables false
set_option linter.unusedSimpArgs false
set_option maxRecDepth 100000
set_option maxHeartbeats 8000000
open Go
attribute [local irreducible] bitsOf shlOf shrOf
theorem byte_small (c : B8) : (c.setWidth 64) >>> 8 = 0#64 := by
  apply BitVec.eq_of_toNat_eq
  rw [BitVec.toNat_ushiftRight, Nat.shiftRight_eq_div_pow, BitVec.toNat_setWidth]
  have := c.isLt
  simp
  omega
theorem cell_bool {G : Cx} {hs : Hp} {a : Addr} {bs : List Bool} {k : Nat} {b : Bool} (h : At G.w0 (some a) (boolsV bs)) (hd : a.block ∉ G.fp) (hk : k < bs.length) (hb : bs.getD k false = b) : G.cellIs hs (a.add (k * 1)) (.bool b) := by
  rw [Nat.mul_one]
  refine cell_of_at rfl h hd ?_
  rw [List.getElem?_map, List.getElem?_eq_getElem hk, ← hb, List.getD_eq_getElem?_getD, List.getElem?_eq_getElem hk]
  rfl
/-- The bytes so far, and noughts. -/
def padB (bs : List Bool) (n i : Nat) : List B8 := pack (bs.take i) ++ List.replicate (n - (i + 7) / 8) 0#8
theorem padB_len {bs : List Bool} {n i : Nat} (hi : i ≤ bs.length) (hn : (i + 7) / 8 ≤ n) : (padB bs n i).length = n := by
  unfold padB
  rw [List.length_append, pack_len, List.length_take, Nat.min_eq_left hi, List.length_replicate]; omega
theorem padB_step {bs : List Bool} {n i : Nat} (hi : i < bs.length) (hn : n = (bs.length + 7) / 8) : (padB bs n i).set (i / 8) ((padB bs n i).getD (i / 8) 0 ||| bitB (bs.getD i false) (i % 8)) = padB bs n (i + 1) := by
  have hp : pack (bs.take (i + 1)) = pushB (pack (bs.take i)) i (bs.getD i false) := by
    rw [List.take_succ_eq_append_getElem hi, pack_end, List.length_take, Nat.min_eq_left (by omega), List.getD_eq_getElem?_getD, List.getElem?_eq_getElem hi]
    rfl
  have hl : (pack (bs.take i)).length = (i + 7) / 8 := by rw [pack_len, List.length_take, Nat.min_eq_left (by omega)]
  unfold padB
  rw [hp]
  generalize pack (bs.take i) = p at *
  unfold pushB
  by_cases h0 : i % 8 = 0
  · rw [if_pos h0]
    obtain ⟨k, hk⟩ : ∃ k, n - (i + 7) / 8 = k + 1 := ⟨n - (i + 7) / 8 - 1, by omega⟩
    rw [hk, show n - (i + 1 + 7) / 8 = k by omega, List.replicate_succ, show i / 8 = p.length by omega, h0]
    rw [List.set_append_right _ _ (Nat.le_refl _), Nat.sub_self, List.getD_eq_getElem?_getD, List.getElem?_append_right (Nat.le_refl _), Nat.sub_self]
    simp
  · rw [if_neg h0, show n - (i + 1 + 7) / 8 = n - (i + 7) / 8 by omega]
    rw [List.set_append_left _ _ (by omega), List.getD_eq_getElem?_getD, List.getElem?_append_left (by omega), ← List.getD_eq_getElem?_getD]
theorem padB_same {bs : List Bool} {n i : Nat} (hi : i < bs.length) (hn : n = (bs.length + 7) / 8) (hb : bs.getD i false = false) : padB bs n (i + 1) = padB bs n i := by
  rw [← padB_step hi hn, hb]
  have e : bitB false (i % 8) = 0#8 := by unfold bitB; simp
  have hl := padB_len (n := n) (Nat.le_of_lt hi) (by omega)
  rw [e, BitVec.or_zero, List.getD_eq_getElem?_getD, List.getElem?_eq_getElem (by omega)]
  simp
end
end Go.Proofs.Ytnlheljpagpiiaa
