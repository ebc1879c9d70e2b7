/-
  A row of bytes of the call's own, or none; what a call makes of blocks handed to it.
-/
import Derived.Test.YtnlheljpagpiiaaGreatTab
import Derived.Test.YtnlheljpagpiiaaGreatTl
import Derived.Test.YtnlheljpagpiiaaGreatMe
set_option linter.unusedVariables false
set_option linter.unusedSimpArgs false
namespace Go.Proofs.YtnlheljpagpiiaaGreat
open Go
/-- A row of bytes of the call's own, or none. -/
inductive Own : Option Addr → List B8 → Nat → Hp → Prop
  | none : Own none [] 0 []
  | row (b : Nat) (l : List B8) (r : List Value) (fr : Nat × Nat) (hf : Soft fr (l.map b8 ++ r).length) : Own (some ⟨b, 0, Option.none⟩) l (l.map b8 ++ r).length [⟨b, l.map b8 ++ r, 5, fr⟩]
theorem cut_all (A : Option Addr) (k c z : Nat) : Value.slice (if c = 0 then A else Option.map (fun x => x.add (0 * z)) A) (k - 0) (c - 0) = .slice A k c := by
  have e : (if c = 0 then A else Option.map (fun x => x.add (0 * z)) A) = A := by
    split
    · rfl
    · rw [Nat.zero_mul]; cases A <;> rfl
  rw [e]; rfl
theorem at_in {G : Cx} {hs : Hp} {b : Nat} {cs : List Value} {t : TypeId} {fr : Nat × Nat} {w : World} (hm : (⟨b, cs, t, fr⟩ : Ent) ∈ hs) (hw : St G hs w) : At w (some ⟨b, 0, none⟩) cs := fun i v hv => ⟨_, rfl, by rw [add_plain, hw.cell hm, Nat.zero_add]; exact hv⟩
theorem CallVC.mutT {G : Cx} {hs : Hp} {f : Nat} {args : List Value} {K : Value → Hp → Prop} {R : Value → Hp → Prop} (pre rest : Hp) (hp : hs.Perm (pre ++ rest))
    (hc : ∀ w, St G hs w → St ⟨G.P, w, ids pre⟩ pre w → Mut G.P f args w pre fun v hs2 => ∃ L, List.Sublist L hs2 ∧ R v L) (hk : ∀ v L, R v L → K v (L ++ rest)) : CallVC G hs f args K := by
  refine ⟨K, fun w hw => (hc w hw (hw.only hp)).calls.mono ?_, fun _ _ h => h⟩
  rintro e w' ⟨v, hs2, rfl, ⟨L, hL, hr⟩, hst⟩
  exact ⟨v, L ++ rest, rfl, hk v L hr, (hw.transM hp hst).sub (hL.append_right rest)⟩
end Go.Proofs.YtnlheljpagpiiaaGreat
