/-
  Whole structs read from a block, and parts of one.
-/
import Derived.Test.YtbccpibgjjiikaaWj
set_option linter.unusedVariables false
set_option linter.unusedSimpArgs false
namespace Go.Proofs.Ytbccpibgjjiikaa
open Go
variable {G : Cx} {hs : Hp}

theorem pick_whole {b n : Nat} {cs : List Value} {t : TypeId} {fr : Nat × Nat} (hm : (⟨b, cs, t, fr⟩ : Ent) ∈ hs) (hl : cs.length = n) : cs.length = n ∧ G.cellsAre hs ⟨b, 0, none⟩ cs := ⟨hl, cellsAre_whole hm⟩
theorem pick_part {b n off : Nat} {cs : List Value} {t : TypeId} {fr : Nat × Nat} (hm : (⟨b, cs, t, fr⟩ : Ent) ∈ hs) (hl : ((cs.drop off).take n).length = n) : ((cs.drop off).take n).length = n ∧ G.cellsAre hs ⟨b, off, none⟩ ((cs.drop off).take n) :=
  ⟨hl, cellsAre_at hm fun i v h => by
    rw [List.getElem?_take] at h
    split at h
    · rw [List.getElem?_drop] at h; exact h
    · cases h⟩
theorem store_at {b off : Nat} {cs vs : List Value} {t : TypeId} {fr : Nat × Nat} {hs' : Hp} {K : Hp → Prop} (hu : Upd ⟨b, cs, t, fr⟩ ⟨b, layL vs cs off, t, fr⟩ hs hs') (hfr : Soft fr cs.length) (h1 : vs.all one = true)
    (hl : Nat.ble (off + vs.length) cs.length = true) (h : K hs') : StoreVC G hs ⟨b, off, none⟩ vs K := StoreVC.at_ hu hfr h1 (Nat.le_of_ble_eq_true hl) h
end Go.Proofs.Ytbccpibgjjiikaa
