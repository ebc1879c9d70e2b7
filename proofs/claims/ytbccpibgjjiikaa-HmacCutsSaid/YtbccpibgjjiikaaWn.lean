/-
  Calls that hand back rows of bytes.
-/
import Derived.Test.YtbccpibgjjiikaaWm
set_option linter.unusedVariables false
set_option linter.unusedSimpArgs false
namespace Go.Proofs.Ytbccpibgjjiikaa
open Go
section made
variable {G : Cx} {T : Tab} {hs : Hp}
theorem CallVC.givesB {f e : Nat} {args : List Value} {K : Value → Hp → Prop} {xs : List B8} (hc : ∀ w, St G hs w → Ret G.P f args w (Gives e (xs.map b8)))
    (hk : ∀ b r fr, Soft fr (xs.map b8 ++ r).length → K (.slice (some ⟨b, 0, none⟩) xs.length (xs.map b8 ++ r).length) (⟨b, xs.map b8 ++ r, e, fr⟩ :: hs)) : CallVC G hs f args K :=
  CallVC.gives hc fun b r fr hf => by rw [List.length_map]; exact hk b r fr hf
theorem CallVC.givesEB {f e : Nat} {args : List Value} {K : Value → Hp → Prop} {xs : List B8} {c : Value} (hc : ∀ w, St G hs w → Ret G.P f args w (GivesE e (xs.map b8) c))
    (hk : ∀ b r fr, Soft fr (xs.map b8 ++ r).length → K (.tuple #[.slice (some ⟨b, 0, none⟩) xs.length (xs.map b8 ++ r).length, c]) (⟨b, xs.map b8 ++ r, e, fr⟩ :: hs)) : CallVC G hs f args K :=
  CallVC.givesE hc fun b r fr hf => by rw [List.length_map]; exact hk b r fr hf
theorem CallVC.mutGB {f e : Nat} {args : List Value} {K : Value → Hp → Prop} {xs : List B8} (pre rest : Hp) (hp : hs.Perm (pre ++ rest))
    (hc : ∀ w, St G hs w → St ⟨G.P, w, ids pre⟩ pre w → Mut G.P f args w pre (Gives e (xs.map b8)))
    (hk : ∀ b r fr, Soft fr (xs.map b8 ++ r).length → K (.slice (some ⟨b, 0, none⟩) xs.length (xs.map b8 ++ r).length) (⟨b, xs.map b8 ++ r, e, fr⟩ :: rest)) : CallVC G hs f args K :=
  CallVC.mutG pre rest hp hc fun b r fr hf => by rw [List.length_map]; exact hk b r fr hf
/-- An argument's row, in a world that has gone on. -/
theorem At.here {P : Program} {w w' : World} {fp : List Nat} {A : Option Addr} {xs : List Value} (h : At w A xs) (hw : St ⟨P, w, fp⟩ hs w') (hd : ∀ a, A = some a → a.block ∉ fp) : At w' A xs := h.old hw hd
/-- A row that is known, in a world. -/
theorem at_own {b off : Nat} {cs xs : List Value} {t : TypeId} {fr : Nat × Nat} {w : World} (hm : (⟨b, cs, t, fr⟩ : Ent) ∈ hs) (hw : St G hs w) (hx : ∀ i v, xs[i]? = some v → cs[off + i]? = some v) : At w (some ⟨b, off, none⟩) xs :=
  fun i v hv => ⟨_, rfl, by rw [add_plain, hw.cell hm]; exact hx i v hv⟩
theorem at_pre {b : Nat} {xs r : List Value} {t : TypeId} {fr : Nat × Nat} {w : World} (hm : (⟨b, xs ++ r, t, fr⟩ : Ent) ∈ hs) (hw : St G hs w) : At w (some ⟨b, 0, none⟩) xs :=
  at_own hm hw fun i v hv => by rw [Nat.zero_add, List.getElem?_append_left (List.getElem?_eq_some_iff.1 hv).1]; exact hv
end made
end Go.Proofs.Ytbccpibgjjiikaa
