/-
  Tags on the way: a row of one's own, or none; a tag that is made and asked. (As in Su, without the laws of hmac.)
-/
import Derived.Test.YtamibdabhgnfcaaSn
import Derived.Test.YtamibdabhgnfcaaLb
set_option linter.unusedVariables false
set_option linter.unusedSimpArgs false
set_option maxRecDepth 100000
set_option maxHeartbeats 8000000
namespace Go.Proofs.Ytamibdabhgnfcaa
open Go
attribute [local irreducible] bitsOf shlOf shrOf
/-- A row of bytes of the call's own, or none. -/
inductive Own : Option Addr → List B8 → Nat → Hp → Prop
  | none : Own none [] 0 []
  | row (b : Nat) (l : List B8) (r : List Value) (fr : Nat × Nat) (hf : Soft fr (l.map b8 ++ r).length) : Own (some ⟨b, 0, Option.none⟩) l (l.map b8 ++ r).length [⟨b, l.map b8 ++ r, 5, fr⟩]
section
variable {G : Cx} {hs : Hp}
theorem CallVC.wroteG {K : Value → Hp → Prop} {f : Nat} {args : List Value} {p : Nat} {m : List B8} {Al : Option Addr} {cl : Nat} {bs : List B8} (others Lk : Hp) (hsub : Lk.Sublist others) (hp : hs.Perm (digM p m Al cl :: others)) (hold : ∀ w, St G Lk w → At w Al ((rest m).map b8))
    (hm : ∀ w, St G hs w → St ⟨G.P, w, [p]⟩ [digM p m Al cl] w → Mut G.P f args w [digM p m Al cl] (Wrote p ((S8.begin.run m).run (rest m ++ bs)) (m.length + bs.length) Al (rest m) (rest (rest m ++ bs))))
    (hk : ∀ A' c' L, (rest (m ++ bs)).length ≤ c' → (∀ w, St G (Lk ++ L) w → At w A' ((rest (m ++ bs)).map b8)) → K (.int .i64 0) (digM p (m ++ bs) A' c' :: (others ++ L))) :
    CallVC G hs f args K := by
  refine ⟨K, fun w hw => ?_, fun _ _ h => h⟩
  have hw' := hw.perm hp
  have ho : St G others w := hw'.sub (List.sublist_cons_self _ _)
  refine (hm w hw (hw.only (pre := [digM p m Al cl]) (rest := others) hp)).calls.mono ?_
  rintro e w' ⟨v, hs2, rfl, ⟨rfl, A', c', L, hsb, hc', hL⟩, hst⟩
  obtain ⟨e1, e2⟩ := run_app S8.begin m bs
  rw [← e1, ← e2, ← List.length_append] at hsb
  rw [← e2] at hc' hL
  refine ⟨_, digM p (m ++ bs) A' c' :: (others ++ L), rfl, hk A' c' L hc' ?_, ?_⟩
  · intro w2 hw2
    cases hL with
    | nil h hA => rw [h]; exact At.nil
    | own b r fr hA => subst hA; exact at_pre (List.mem_append_right _ (List.Mem.head _)) hw2
    | old h hA => rw [h]; exact hA w2 (hold w2 (hw2.sub (List.sublist_append_left _ _)))
  · have h2 := hw.transM (pre := [digM p m Al cl]) (rest := others) hp (hst.sbp hsb)
    exact h2.perm (List.Perm.cons _ List.perm_append_comm)
end
theorem macsum_g (mp p : Nat) (key m bs : List B8) (Ao : Option Addr) (co : Nat) (A : Option Addr) (c : Nat) (hmb : m = padOf key 0x36 ++ bs) (hn : m.length ≤ 1048576) (w : World) (hm : At w (some ⟨mp, 0, none⟩) [.pointer (some ⟨p, 0, none⟩), .slice Ao (padOf key 0x5C).length co])
    (hd : At w (some ⟨p, 0, none⟩) (digM p m A c).cs) (hl : At w A ((rest m).map b8)) (ho : At w Ao ((padOf key 0x5C).map b8)) :
    Ret Try.prog 60 [.pointer (some ⟨mp, 0, none⟩)] w (GivesE 5 ((hmac key bs).map b8) (.int .i64 0)) := by
  rw [hmac, ← hmb]
  exact macsum_r mp p key m Ao co A c hn w hm hd hl ho
end Go.Proofs.Ytamibdabhgnfcaa
