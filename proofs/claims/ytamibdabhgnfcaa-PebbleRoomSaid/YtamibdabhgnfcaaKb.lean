/-
  Keys out of keys: what they are (no program); Expand in the document; every input.
-/
import Derived.Test.YtamibdabhgnfcaaKa
set_option linter.unusedVariables false
set_option linter.unusedSimpArgs false
set_option maxRecDepth 100000
set_option maxHeartbeats 8000000
namespace Go.Proofs.Ytamibdabhgnfcaa
open Go
attribute [local irreducible] bitsOf shlOf shrOf
/-- The n-th tag of a chain of tags. -/
def tagN (key info : List B8) : Nat → List B8
  | 0 => []
  | i + 1 => hmac key (tagN key info i ++ info ++ [BitVec.ofNat 8 (i + 1)])
/-- So many tags behind one another. -/
def tagsN (key info : List B8) : Nat → List B8
  | 0 => []
  | i + 1 => tagsN key info i ++ tagN key info (i + 1)
def expand (key info : List B8) (n : Nat) : List B8 := (tagsN key info ((n + 31) / 32)).take n
theorem tagN_len (key info : List B8) (i : Nat) : (tagN key info (i + 1)).length = 32 := hmac_len _ _
theorem tagN_le (key info : List B8) (i : Nat) : (tagN key info i).length ≤ 32 := by
  cases i with
  | zero => exact Nat.zero_le _
  | succ i => exact Nat.le_of_eq (tagN_len _ _ _)
theorem tagsN_len (key info : List B8) (i : Nat) : (tagsN key info i).length = 32 * i := by
  induction i with
  | zero => rfl
  | succ i ih => rw [tagsN, List.length_append, ih, tagN_len]; omega
theorem tagsN_pre (key info : List B8) (i j : Nat) : ∃ r, tagsN key info (i + j) = tagsN key info i ++ r := by
  induction j with
  | zero => exact ⟨[], by simp⟩
  | succ j ih =>
    obtain ⟨r, hr⟩ := ih
    exact ⟨r ++ tagN key info (i + j + 1), by rw [Nat.add_succ, tagsN, hr, List.append_assoc]⟩
theorem expand_len (key info : List B8) (n : Nat) : (expand key info n).length = n := by
  rw [expand, List.length_take, tagsN_len]; omega
theorem expand_of (key info : List B8) (n i : Nat) (h : n ≤ 32 * i) : (tagsN key info i).take n = expand key info n := by
  obtain ⟨r, hr⟩ := tagsN_pre key info ((n + 31) / 32) (i - (n + 31) / 32)
  rw [show (n + 31) / 32 + (i - (n + 31) / 32) = i by omega] at hr
  rw [hr, List.take_append_of_le_length (by rw [tagsN_len]; omega), expand]
theorem expand_take (key info : List B8) (n m : Nat) (h : n ≤ m) : (expand key info m).take n = expand key info n := by
  rw [expand, List.take_take, Nat.min_eq_left h, expand_of _ _ _ _ (by omega)]
/-- A row with no error, of the call's own or none, with whatever room. -/
structure GivesO (xs : List B8) (v : Value) (hs : Hp) : Prop where wrap ::
  raw : ∃ (A : Option Addr) (c : Nat) (E : Hp), v = .tuple #[.slice A xs.length c, .int .i64 0] ∧ xs.length ≤ c ∧ Own A xs c E ∧ E.Sublist hs
theorem Own.len {A : Option Addr} {l : List B8} {c : Nat} {E : Hp} (h : Own A l c E) : l.length ≤ c := by
  cases h with
  | none => exact Nat.le_refl _
  | row b l r fr hf => rw [List.length_append, List.length_map]; omega
end Go.Proofs.Ytamibdabhgnfcaa
