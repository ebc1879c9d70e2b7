/-
  Bytes held against bytes as texts; whether bytes are a tag's first, in the document; the check of the laws; every input.
-/
import Derived.Test.YtamibdabhgnfcaaSm
set_option linter.unusedVariables false
set_option linter.unusedSimpArgs false
set_option maxRecDepth 100000
set_option maxHeartbeats 4000000
namespace Go.Proofs.Ytamibdabhgnfcaa
open Go
attribute [local irreducible] bitsOf shlOf shrOf

/-- Bytes as numbers. -/
def nums (l : List B8) : List Int := l.map fun x => (x.toNat : Int)
theorem bytesOf_nums (l : List B8) : bytesOf (nums l) = l.map b8 := by simp [bytesOf, nums]
theorem str_eq (l l' : List B8) : (strOf (nums l)).toList = (strOf (nums l')).toList ↔ l = l' := by
  rw [ByteArray.toList_eq, ByteArray.toList_eq]
  constructor
  · intro h
    simp only [strOf, nums, List.map_map] at h
    have inj : Function.Injective ((fun x : Int => UInt8.ofNat x.toNat) ∘ fun x : B8 => (x.toNat : Int)) := by
      intro a b hab
      have := congrArg UInt8.toNat hab
      simp only [Function.comp, Int.toNat_natCast, UInt8.toNat_ofNat'] at this
      apply BitVec.eq_of_toNat_eq
      have ha := a.isLt
      have hb := b.isLt
      omega
    exact (List.map_inj_right fun a b hab => inj hab).1 h
  · rintro rfl; rfl
section
variable {G : Cx} {hs : Hp}
theorem conv_own {b n : Nat} {l : List B8} {r : List Value} {t : TypeId} {fr : Nat × Nat} (hm : (⟨b, l.map b8 ++ r, t, fr⟩ : Ent) ∈ hs) (hn : l.length = n) : (nums l).length = n ∧ (0 < n → ∃ ad, (some ⟨b, 0, none⟩ : Option Addr) = some ad ∧ G.cellsAre hs ad (bytesOf (nums l))) := by
  refine ⟨by simpa [nums] using hn, fun _ => ⟨_, rfl, ?_⟩⟩
  rw [bytesOf_nums]
  exact cellsAre_at hm fun i v hv => by rw [Nat.zero_add, List.getElem?_append_left (List.getElem?_eq_some_iff.1 hv).1]; exact hv
theorem conv_arg {A : Option Addr} {n : Nat} {l : List B8} (h : At G.w0 A (l.map b8)) (hd : ∀ a, A = some a → a.block ∉ G.fp) (hn : l.length = n) : (nums l).length = n ∧ (0 < n → ∃ ad, A = some ad ∧ G.cellsAre hs ad (bytesOf (nums l))) := by
  refine ⟨by simpa [nums] using hn, fun h0 => ?_⟩
  obtain ⟨a, rfl⟩ := h.is (by simp; omega)
  refine ⟨a, rfl, ?_⟩
  rw [bytesOf_nums]
  exact cellsAre_of_at rfl h (hd a rfl)
theorem conv_nil {A : Option Addr} : (nums []).length = 0 ∧ (0 < 0 → ∃ ad, A = some ad ∧ G.cellsAre hs ad (bytesOf (nums []))) := ⟨rfl, fun h => absurd h (Nat.lt_irrefl 0)⟩
end
end Go.Proofs.Ytamibdabhgnfcaa
