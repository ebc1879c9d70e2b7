/-
  Tags on the way: a row of one's own, or none; a tag that is made and asked. (As in Su, without the laws of hmac.) Keys out of keys: what they are (no program); Expand in the document; every input. Expand, in the document; every input.
-/
import Derived.Test.YtnlheljpagpiiaaMl
import Derived.Test.YtnlheljpagpiiaaLb
import Derived.Test.YtnlheljpagpiiaaMk
namespace Go.Proofs.Ytnlheljpagpiiaa
section
set_option linter.unusedVariables false
set_option linter.unusedSimpArgs false
set_option maxRecDepth 100000
set_option maxHeartbeats 8000000
open Go
attribute [local irreducible] bitsOf shlOf shrOf
section
variable {G : Cx} {hs : Hp}
theorem CallVC.wroteG {K : Value → Hp → Prop} {f : Nat} {args : List Value} {p : Nat} {m : List B8} {Al : Option Addr} {cl : Nat} {bs : List B8} (others Lk : Hp) (hsub : Lk.Sublist others) (hp : hs.Perm (digM p m Al cl :: others)) (hold : ∀ w, St G Lk w → At w Al ((rest m).map b8))
    (hm : ∀ w, St G hs w → St ⟨G.P, w, [p]⟩ [digM p m Al cl] w → Mut G.P f args w [digM p m Al cl] (Wrote p ((S8.begin.run m).run (rest m ++ bs)) (m.length + bs.length) Al (rest m) (rest (rest m ++ bs))))
    (hk : ∀ A' c' L, (rest (m ++ bs)).length ≤ c' → (∀ w, St G (Lk ++ L) w → At w A' ((rest (m ++ bs)).map b8)) → K (.int .i64 0) (digM p (m ++ bs) A' c' :: (others ++ L))) :
    CallVC G hs f args K := by
  refine ⟨K, fun w hw => ?_, fun _ _ h => h⟩
  have hw' := hw.perm hp
  have ho : St G others w := hw'.sub (List.sublist_cons_self _ _)
  refine (hm w hw (hw.only (pre := [digM p m Al cl]) (rest := others) hp)).calls.mono ?_
  rintro e w' ⟨v, hs2, rfl, ⟨rfl, A', c', L, hsb, hc', hL⟩, hst⟩
  obtain ⟨e1, e2⟩ := run_app S8.begin m bs
  rw [← e1, ← e2, ← List.length_append] at hsb
  rw [← e2] at hc' hL
  refine ⟨_, digM p (m ++ bs) A' c' :: (others ++ L), rfl, hk A' c' L hc' ?_, ?_⟩
  · intro w2 hw2
    cases hL with
    | nil h hA => rw [h]; exact At.nil
    | own b r fr hA => subst hA; exact at_pre (List.mem_append_right _ (List.Mem.head _)) hw2
    | old h hA => rw [h]; exact hA w2 (hold w2 (hw2.sub (List.sublist_append_left _ _)))
  · have h2 := hw.transM (pre := [digM p m Al cl]) (rest := others) hp (hst.sbp hsb)
    exact h2.perm (List.Perm.cons _ List.perm_append_comm)
end
theorem macsum_g (mp p : Nat) (key m bs : List B8) (Ao : Option Addr) (co : Nat) (A : Option Addr) (c : Nat) (hmb : m = padOf key 0x36 ++ bs) (hn : m.length ≤ 1048576) (w : World) (hm : At w (some ⟨mp, 0, none⟩) [.pointer (some ⟨p, 0, none⟩), .slice Ao (padOf key 0x5C).length co])
    (hd : At w (some ⟨p, 0, none⟩) (digM p m A c).cs) (hl : At w A ((rest m).map b8)) (ho : At w Ao ((padOf key 0x5C).map b8)) :
    Ret Try.prog 68 [.pointer (some ⟨mp, 0, none⟩)] w (GivesE 5 ((hmac key bs).map b8) (.int .i64 0)) := by
  rw [hmac, ← hmb]
  exact macsum_r mp p key m Ao co A c hn w hm hd hl ho
theorem mac_none (A : Option Addr) (key : List B8) (ck : Nat) (bs : List B8) (h0 : bs.length = 0) (hk : key.length ≤ 1048576) (hck : key.length ≤ ck) (w : World) (hA : At w A (key.map b8)) :
    Ret Try.prog 54 [.slice A key.length ck, .slice none 0 0] w (GivesE 5 ((hmac key bs).map b8) (.int .i64 0)) := by
  cases bs with
  | nil => exact mac_of_r A key ck none [] 0 hk hck (by decide) (by decide) w hA At.nil
  | cons x y => cases h0
end
section
set_option linter.unusedVariables false
set_option linter.unusedSimpArgs false
set_option maxRecDepth 100000
set_option maxHeartbeats 8000000
open Go
attribute [local irreducible] bitsOf shlOf shrOf
/-- The n-th tag of a chain of tags. -/
def tagN (key info : List B8) : Nat → List B8
  | 0 => []
  | i + 1 => hmac key (tagN key info i ++ info ++ [BitVec.ofNat 8 (i + 1)])
/-- So many tags behind one another. -/
def tagsN (key info : List B8) : Nat → List B8
  | 0 => []
  | i + 1 => tagsN key info i ++ tagN key info (i + 1)
def expand (key info : List B8) (n : Nat) : List B8 := (tagsN key info ((n + 31) / 32)).take n
theorem tagN_len (key info : List B8) (i : Nat) : (tagN key info (i + 1)).length = 32 := hmac_len _ _
theorem tagN_le (key info : List B8) (i : Nat) : (tagN key info i).length ≤ 32 := by
  cases i with
  | zero => exact Nat.zero_le _
  | succ i => exact Nat.le_of_eq (tagN_len _ _ _)
theorem tagsN_len (key info : List B8) (i : Nat) : (tagsN key info i).length = 32 * i := by
  induction i with
  | zero => rfl
  | succ i ih => rw [tagsN, List.length_append, ih, tagN_len]; omega
theorem tagsN_pre (key info : List B8) (i j : Nat) : ∃ r, tagsN key info (i + j) = tagsN key info i ++ r := by
  induction j with
  | zero => exact ⟨[], by simp⟩
  | succ j ih =>
    obtain ⟨r, hr⟩ := ih
    exact ⟨r ++ tagN key info (i + j + 1), by rw [Nat.add_succ, tagsN, hr, List.append_assoc]⟩
theorem expand_len (key info : List B8) (n : Nat) : (expand key info n).length = n := by
  rw [expand, List.length_take, tagsN_len]; omega
theorem expand_of (key info : List B8) (n i : Nat) (h : n ≤ 32 * i) : (tagsN key info i).take n = expand key info n := by
  obtain ⟨r, hr⟩ := tagsN_pre key info ((n + 31) / 32) (i - (n + 31) / 32)
  rw [show (n + 31) / 32 + (i - (n + 31) / 32) = i by omega] at hr
  rw [hr, List.take_append_of_le_length (by rw [tagsN_len]; omega), expand]
theorem expand_take (key info : List B8) (n m : Nat) (h : n ≤ m) : (expand key info m).take n = expand key info n := by
  rw [expand, List.take_take, Nat.min_eq_left h, expand_of _ _ _ _ (by omega)]
/-- A row with no error, of the call's own or none, with whatever room. -/
structure GivesO (xs : List B8) (v : Value) (hs : Hp) : Prop where wrap ::
  raw : ∃ (A : Option Addr) (c : Nat) (E : Hp), v = .tuple #[.slice A xs.length c, .int .i64 0] ∧ xs.length ≤ c ∧ Own A xs c E ∧ E.Sublist hs
theorem Own.len {A : Option Addr} {l : List B8} {c : Nat} {E : Hp} (h : Own A l c E) : l.length ≤ c := by
  cases h with
  | none => exact Nat.le_refl _
  | row b l r fr hf => rw [List.length_append, List.length_map]; omega
end
section
set_option linter.unusedVariables false
set_option linter.unusedSimpArgs false
set_option maxRecDepth 100000
set_option maxHeartbeats 8000000
open Go
attribute [local irreducible] bitsOf shlOf shrOf
/-- All tags so far, and the last one. -/
inductive Tags (key info : List B8) : Nat → Value → Value → Hp → Prop
  | zero : Tags key info 0 (.slice none 0 0) (.slice none 0 0) []
  | succ (i b bt : Nat) (r rt : List Value) (fr frt : Nat × Nat) (k kt c ct : Nat) (hk : k = (tagsN key info (i + 1)).length) (hkt : kt = (tagN key info (i + 1)).length) (hc : c = ((tagsN key info (i + 1)).map b8 ++ r).length) (hct : ct = ((tagN key info (i + 1)).map b8 ++ rt).length)
      (hf : Soft fr ((tagsN key info (i + 1)).map b8 ++ r).length) (hft : Soft frt ((tagN key info (i + 1)).map b8 ++ rt).length) :
      Tags key info (i + 1) (.slice (some ⟨b, 0, none⟩) k c) (.slice (some ⟨bt, 0, none⟩) kt ct)
        [⟨b, (tagsN key info (i + 1)).map b8 ++ r, 5, fr⟩, ⟨bt, (tagN key info (i + 1)).map b8 ++ rt, 5, frt⟩]
theorem conv_i64_8 (k : Nat) : ((BitVec.ofNat 8 k).toNat : Int) = IntKind.u8.wrap (k : Int) := by
  simp [IntKind.wrap, IntKind.signed, IntKind.bits, BitVec.toNat_ofNat]
theorem holds_br {G : Cx} {hs : Hp} {b n c : Nat} {l : List B8} {r : List Value} {t : TypeId} {fr : Nat × Nat} (hm : (⟨b, l.map b8 ++ r, t, fr⟩ : Ent) ∈ hs) (hn : l.length = n) : Holds G hs 1 (.slice (some ⟨b, 0, none⟩) n c) n (l.map b8) :=
  Holds.own hm 0 (by rw [List.drop_zero, ← hn, ← List.length_map (f := b8), List.take_left]) (by simp [hn])
end
end Go.Proofs.Ytnlheljpagpiiaa
