/-
  Tags on the way: a row of one's own, or none; a tag that is made and asked. (As in Su, without the laws of hmac.) Keys out of keys: what they are (no program); Expand in the document; every input. Expand, in the document; every input.
-/
import Derived.Test.YtnlheljpagpiiaaGreatMl
import Derived.Test.YtnlheljpagpiiaaGreatLb
import Derived.Test.YtnlheljpagpiiaaGreatMk
namespace Go.Proofs.YtnlheljpagpiiaaGreat
section
set_option linter.unusedVariables false
set_option linter.unusedSimpArgs false
set_option maxRecDepth 100000
set_option maxHeartbeats 8000000
open Go
attribute [local irreducible] bitsOf shlOf shrOf
section
variable {G : Cx} {hs : Hp}
theorem CallVC.wroteG {K : Value → Hp → Prop} {f : Nat} {args : List Value} {p : Nat} {m : List B8} {Al : Option Addr} {cl : Nat} {bs : List B8} (others Lk : Hp) (hsub : Lk.Sublist others) (hp : hs.Perm (digM p m Al cl :: others)) (hold : ∀ w, St G Lk w → At w Al ((rest m).map b8))
    (hm : ∀ w, St G hs w → St ⟨G.P, w, [p]⟩ [digM p m Al cl] w → Mut G.P f args w [digM p m Al cl] (Wrote p ((S8.begin.run m).run (rest m ++ bs)) (m.length + bs.length) Al (rest m) (rest (rest m ++ bs))))
    (hk : ∀ A' c' L, (rest (m ++ bs)).length ≤ c' → (∀ w, St G (Lk ++ L) w → At w A' ((rest (m ++ bs)).map b8)) → K (.int .i64 0) (digM p (m ++ bs) A' c' :: (others ++ L))) :
    CallVC G hs f args K := by
  refine ⟨K, fun w hw => ?_, fun _ _ h => h⟩
  have hw' := hw.perm hp
  have ho : St G others w := hw'.sub (List.sublist_cons_self _ _)
  refine (hm w hw (hw.only (pre := [digM p m Al cl]) (rest := others) hp)).calls.mono ?_
  rintro e w' ⟨v, hs2, rfl, ⟨rfl, A', c', L, hsb, hc', hL⟩, hst⟩
  obtain ⟨e1, e2⟩ := run_app S8.begin m bs
  rw [← e1, ← e2, ← List.length_append] at hsb
  rw [← e2] at hc' hL
  refine ⟨_, digM p (m ++ bs) A' c' :: (others ++ L), rfl, hk A' c' L hc' ?_, ?_⟩
  · intro w2 hw2
    cases hL with
    | nil h hA => rw [h]; exact At.nil
    | own b r fr hA => subst hA; exact at_pre (List.mem_append_right _ (List.Mem.head _)) hw2
    | old h hA => rw [h]; exact hA w2 (hold w2 (hw2.sub (List.sublist_append_left _ _)))
  · have h2 := hw.transM (pre := [digM p m Al cl]) (rest := others) hp (hst.sbp hsb)
    exact h2.perm (List.Perm.cons _ List.perm_append_comm)
end
theorem macsum_g (mp p : Nat) (key m bs : List B8) (Ao : Option Addr) (co : Nat) (A : Option Addr) (c : Nat) (hmb : m = padOf key 0x36 ++ bs) (hn : m.length ≤ 1048576) (w : World) (hm : At w (some ⟨mp, 0, none⟩) [.pointer (some ⟨p, 0, none⟩), .slice Ao (padOf key 0x5C).length co])
    (hd : At w (some ⟨p, 0, none⟩) (digM p m A c).cs) (hl : At w A ((rest m).map b8)) (ho : At w Ao ((padOf key 0x5C).map b8)) :
    Ret Tryz.prog 108 [.pointer (some ⟨mp, 0, none⟩)] w (GivesE 5 ((hmac key bs).map b8) (.int .i64 0)) := by
  rw [hmac, ← hmb]
  exact macsum_r mp p key m Ao co A c hn w hm hd hl ho
theorem mac_none (A : Option Addr) (key : List B8) (ck : Nat) (bs : List B8) (h0 : bs.length = 0) (hk : key.length ≤ 1048576) (hck : key.length ≤ ck) (w : World) (hA : At w A (key.map b8)) :
    Ret Tryz.prog 75 [.slice A key.length ck, .slice none 0 0] w (GivesE 5 ((hmac key bs).map b8) (.int .i64 0)) := by
  cases bs with
  | nil => exact mac_of_r A key ck none [] 0 hk hck (by decide) (by decide) w hA At.nil
  | cons x y => cases h0
end
section
set_option linter.unusedVariables false
set_option linter.unusedSimpArgs false
set_option maxRecDepth 100000
set_option maxHeartbeats 8000000
open Go
attribute [local irreducible] bitsOf shlOf shrOf
/-- The n-th tag of a chain of tags. -/
def tagN (key info : List B8) : Nat → List B8
  | 0 => []
  | i + 1 => hmac key (tagN key info i ++ info ++ [BitVec.ofNat 8 (i + 1)])
/-- So many tags behind one another. -/
def tagsN (key info : List B8) : Nat → List B8
  | 0 => []
  | i + 1 => tagsN key info i ++ tagN key info (i + 1)
def expand (key info : List B8) (n : Nat) : List B8 := (tagsN key info ((n + 31) / 32)).take n
theorem tagN_len (key info : List B8) (i : Nat) : (tagN key info (i + 1)).length = 32 := hmac_len _ _
theorem tagN_le (key info : List B8) (i : Nat) : (tagN key info i).length ≤ 32 := by
  cases i with
  | zero => exact Nat.zero_le _
  | succ i => exact Nat.le_of_eq (tagN_len _ _ _)
theorem tagsN_len (key info : List B8) (i : Nat) : (tagsN key info i).length = 32 * i := by
  induction i with
  | zero => rfl
  | succ i ih => rw [tagsN, List.length_append, ih, tagN_len]; omega
theorem tagsN_pre (key info : List B8) (i j : Nat) : ∃ r, tagsN key info (i + j) = tagsN key info i ++ r := by
  induction j with
  | zero => exact ⟨[], by simp⟩
  | succ j ih =>
    obtain ⟨r, hr⟩ := ih
    exact ⟨r ++ tagN key info (i + j + 1), by rw [Nat.add_succ, tagsN, hr, List.append_assoc]⟩
theorem expand_len (key info : List B8) (n : Nat) : (expand key info n).length = n := by
  rw [expand, List.length_take, tagsN_len]; omega
theorem expand_of (key info : List B8) (n i : Nat) (h : n ≤ 32 * i) : (tagsN key info i).take n = expand key info n := by
  obtain ⟨r, hr⟩ := tagsN_pre key info ((n + 31) / 32) (i - (n + 31) / 32)
  rw [show (n + 31) / 32 + (i - (n + 31) / 32) = i by omega] at hr
  rw [hr, List.take_append_of_le_length (by rw [tagsN_len]; omega), expand]
theorem expand_take (key info : List B8) (n m : Nat) (h : n ≤ m) : (expand key info m).take n = expand key info n := by
  rw [expand, List.take_take, Nat.min_eq_left h, expand_of _ _ _ _ (by omega)]
/-- A row with no error, of the call's own or none, with whatever room. -/
structure GivesO (xs : List B8) (v : Value) (hs : Hp) : Prop where wrap ::
  raw : ∃ (A : Option Addr) (c : Nat) (E : Hp), v = .tuple #[.slice A xs.length c, .int .i64 0] ∧ xs.length ≤ c ∧ Own A xs c E ∧ E.Sublist hs
theorem Own.len {A : Option Addr} {l : List B8} {c : Nat} {E : Hp} (h : Own A l c E) : l.length ≤ c := by
  cases h with
  | none => exact Nat.le_refl _
  | row b l r fr hf => rw [List.length_append, List.length_map]; omega
end
section
set_option linter.unusedVariables false
set_option linter.unusedSimpArgs false
set_option maxRecDepth 100000
set_option maxHeartbeats 8000000
open Go
attribute [local irreducible] bitsOf shlOf shrOf
/-- All tags so far, and the last one. -/
inductive Tags (key info : List B8) : Nat → Value → Value → Hp → Prop
  | zero : Tags key info 0 (.slice none 0 0) (.slice none 0 0) []
  | succ (i b bt : Nat) (r rt : List Value) (fr frt : Nat × Nat) (k kt c ct : Nat) (hk : k = (tagsN key info (i + 1)).length) (hkt : kt = (tagN key info (i + 1)).length) (hc : c = ((tagsN key info (i + 1)).map b8 ++ r).length) (hct : ct = ((tagN key info (i + 1)).map b8 ++ rt).length)
      (hf : Soft fr ((tagsN key info (i + 1)).map b8 ++ r).length) (hft : Soft frt ((tagN key info (i + 1)).map b8 ++ rt).length) :
      Tags key info (i + 1) (.slice (some ⟨b, 0, none⟩) k c) (.slice (some ⟨bt, 0, none⟩) kt ct)
        [⟨b, (tagsN key info (i + 1)).map b8 ++ r, 5, fr⟩, ⟨bt, (tagN key info (i + 1)).map b8 ++ rt, 5, frt⟩]
theorem conv_i64_8 (k : Nat) : ((BitVec.ofNat 8 k).toNat : Int) = IntKind.u8.wrap (k : Int) := by
  simp [IntKind.wrap, IntKind.signed, IntKind.bits, BitVec.toNat_ofNat]
theorem rmac_n (A : Option Addr) (key : List B8) (ck : Nat) (B : Option Addr) (bs : List B8) (m cb : Nat) (hm : bs.length = m) (hk : key.length ≤ 1048576) (hck : key.length ≤ ck) (hb : bs.length ≤ 1048512) (hcb : bs.length ≤ cb) (w : World) (hA : At w A (key.map b8)) (hB : At w B (bs.map b8)) :
    Ret Tryz.prog 79 [.slice A key.length ck, .slice B m cb] w (GivesE 5 ((hmac key bs).map b8) (.int .i64 0)) := by
  rw [← hm]; exact rmac_of_r A key ck B bs cb hk hck hb hcb w hA hB
theorem holds_br {G : Cx} {hs : Hp} {b n c : Nat} {l : List B8} {r : List Value} {t : TypeId} {fr : Nat × Nat} (hm : (⟨b, l.map b8 ++ r, t, fr⟩ : Ent) ∈ hs) (hn : l.length = n) : Holds G hs 1 (.slice (some ⟨b, 0, none⟩) n c) n (l.map b8) :=
  Holds.own hm 0 (by rw [List.drop_zero, ← hn, ← List.length_map (f := b8), List.take_left]) (by simp [hn])
theorem rexpand_r (A : Option Addr) (key : List B8) (ck : Nat) (B : Option Addr) (info : List B8) (cb : Nat) (n : Int) (hn : 0 ≤ n ∧ n ≤ 8160) (hkb : key.length ≤ 1048576) (hck : key.length ≤ ck) (hb : info.length ≤ 1000) (w : World) (hA : At w A (key.map b8)) (hB : At w B (info.map b8)) :
    Ret Tryz.prog 111 [.slice A key.length ck, .slice B info.length cb, .int .i64 n] w (GivesO (expand key info n.toNat)) := by
  refine ret_vc tab_ok Tryz.func111 rfl rfl ?_
  repeat' ((try (conv => whnf)); (first | refine Need.au ?_ | (refine Split.mk (fun hsplit => ?_) (fun hsplit => ?_) <;> (try simp only [List.cons.injEq, and_true, true_and, not_true_eq_false, not_false_eq_true] at hsplit) <;> try (exfalso; omega)) | refine Pick.au ?_ | refine store_au ?_ | refine Any.mk (fun _ => ?_) | refine Both.mk ?_ ?_)); all_goals (try (conv => whnf))
  refine LoopVC.mk (fun m env hs => ∃ (i : Nat) (x : Int) (vo vt : Value), x = ((i + 1 : Nat) : Int) ∧ i + m = 256 ∧ 32 * (i : Int) < n + 32 ∧ Tags key info i vo vt hs ∧
    env = [(0, .slice A key.length ck), (1, .slice B info.length cb), (2, .int .i64 n), (8, vo), (9, vt), (10, .int .i64 x)]) 256
    (Weak.mk (Sub.cons rfl (Sub.cons rfl (Sub.cons rfl (Sub.cons rfl (Sub.cons rfl (Sub.cons rfl Sub.nil)))))) (List.Sublist.refl _) ⟨0, 1, _, _, rfl, by omega, by omega, Tags.zero, rfl⟩) ?_
  rintro m env hs ⟨i, _, vo, vt, rfl, hi, hin, hT, rfl⟩
  cases hT with
  | zero =>
    have e1 : tagN key info 1 = hmac key ([] ++ [] ++ info ++ [BitVec.ofNat 8 (0 + 1)]) := rfl
    have h1l : (tagN key info 1).length = 32 := tagN_len key info 0
    repeat' ((try (conv => whnf)); (first | (refine AppendVC.bytes (xs := []) (ys := []) (r := []) tab_ok apb rfl (by repeat (first | exact Take.head _ | apply Take.tail)) soft0 rfl rfl (Holds.nil none 0) (by decide) (fun b5 r5 fr5 hf5 => ?_)) | refine Pick.mk _ (conv_i64_8 _) ?_ | (refine AppendVC.bytes (xs := [] ++ []) (ys := info) tab_ok apb rfl (by repeat (first | exact Take.head _ | apply Take.tail)) (by assumption) rfl rfl (Holds.at (by simp) hB (by simp)) (by show (2 * (_ + _) + 192) * 1 ≤ _; omega) (fun b6 r6 fr6 hf6 => ?_)) | (refine AppendVC.bytes (xs := [] ++ [] ++ info) (ys := [BitVec.ofNat 8 (0 + 1)]) tab_ok apb rfl (by repeat (first | exact Take.head _ | apply Take.tail)) (by assumption) rfl (by simp) (Holds.own (by repeat (first | exact List.Mem.head _ | refine List.Mem.tail _ ?_)) 0 rfl rfl) (by show (2 * (_ + _) + 192) * 1 ≤ _; omega) (fun b7 r7 fr7 hf7 => ?_)) | (refine CallVC.givesEB (xs := tagN key info 1) (fun w2 h2 => e1 ▸ rmac_n A key ck _ ([] ++ [] ++ info ++ [BitVec.ofNat 8 (0 + 1)]) _ _ (by simp) hkb hck (by simp; omega) (by simp) w2 (hA.here h2 (fun _ _ => by simp)) (at_pre (by repeat (first | exact List.Mem.head _ | refine List.Mem.tail _ ?_)) h2)) (fun b8_ r8 fr8 hf8 => ?_)) | (refine AppendVC.nil tab_ok apb (holds_br (by repeat (first | exact List.Mem.head _ | refine List.Mem.tail _ ?_)) rfl) (by show (2 * _ + 192) * 1 ≤ _; omega) (fun h0 => by omega) (fun h0 b9 c9 hc9 => ?_)) | refine Need.au ?_ | (refine Split.mk (fun hsplit => ?_) (fun hsplit => ?_) <;> (try simp only [List.cons.injEq, and_true, true_and, not_true_eq_false, not_false_eq_true] at hsplit) <;> try (exfalso; omega)) | refine Pick.au ?_ | refine store_au ?_ | refine Any.mk (fun _ => ?_) | refine Both.mk ?_ ?_)); all_goals (try (conv => whnf))
    · refine again (m - 1) (by omega) (Sub.cons rfl (Sub.cons rfl (Sub.cons rfl (Sub.cons rfl (Sub.cons rfl (Sub.cons rfl Sub.nil)))))) (by repeat (first | exact List.Sublist.refl _ | exact List.nil_sublist _ | refine List.Sublist.cons_cons _ ?_ | refine List.Sublist.cons _ ?_)) ⟨0 + 1, _, _, _, by omega, by omega, by omega, Tags.succ 0 b9 b8_ (zerosL (c9 - (tagN key info 1).length) ty5.zero) r8 (0, 0) fr8 _ _ _ _ rfl rfl ?_ rfl soft0 hf8, rfl⟩
      show c9 = ((tagN key info 1).map b8 ++ zerosL (c9 - (tagN key info 1).length) ty5.zero).length
      rw [List.length_append, List.length_map, zerosL_len]; omega
    · obtain rfl : n = 0 := by omega
      have e0 : expand key info (0 : Int).toNat = [] := List.eq_nil_of_length_eq_zero (expand_len ..)
      rw [e0]
      exact Done.mk ⟨none, 0, [], rfl, Nat.le_refl _, Own.none, List.nil_sublist _⟩
  | succ i b bt r rt fr frt k kt c ct hk hkt hc hct hf hft =>
    subst hk hkt hc hct
    have e1 : tagN key info (i + 1 + 1) = hmac key ([] ++ tagN key info (i + 1) ++ info ++ [BitVec.ofNat 8 (i + 1 + 1)]) := rfl
    have h1l := tagN_len key info i
    have h2l := tagN_len key info (i + 1)
    have hsl := tagsN_len key info (i + 1)
    repeat' ((try (conv => whnf)); (first | (refine AppendVC.bytes (xs := []) (ys := tagN key info (i + 1)) (r := []) tab_ok apb rfl (by repeat (first | exact Take.head _ | apply Take.tail)) soft0 rfl rfl (holds_br (by repeat (first | exact List.Mem.head _ | refine List.Mem.tail _ ?_)) rfl) (by show (2 * (_ + _) + 192) * 1 ≤ _; omega) (fun b5 r5 fr5 hf5 => ?_)) | refine Pick.mk _ (conv_i64_8 _) ?_ | (refine AppendVC.bytes (xs := [] ++ tagN key info (i + 1)) (ys := info) tab_ok apb rfl (by repeat (first | exact Take.head _ | apply Take.tail)) (by assumption) rfl (by simp) (Holds.at (by simp) hB (by simp)) (by show (2 * (_ + _) + 192) * 1 ≤ _; omega) (fun b6 r6 fr6 hf6 => ?_)) | (refine AppendVC.bytes (xs := [] ++ tagN key info (i + 1) ++ info) (ys := [BitVec.ofNat 8 (i + 1 + 1)]) tab_ok apb rfl (by repeat (first | exact Take.head _ | apply Take.tail)) (by assumption) rfl (by simp) (Holds.own (by repeat (first | exact List.Mem.head _ | refine List.Mem.tail _ ?_)) 0 rfl rfl) (by show (2 * (_ + _) + 192) * 1 ≤ _; omega) (fun b7 r7 fr7 hf7 => ?_)) | (refine CallVC.givesEB (xs := tagN key info (i + 1 + 1)) (fun w2 h2 => e1 ▸ rmac_n A key ck _ ([] ++ tagN key info (i + 1) ++ info ++ [BitVec.ofNat 8 (i + 1 + 1)]) _ _ (by simp; omega) hkb hck (by simp; omega) (by simp) w2 (hA.here h2 (fun _ _ => by simp)) (at_pre (by repeat (first | exact List.Mem.head _ | refine List.Mem.tail _ ?_)) h2)) (fun b8_ r8 fr8 hf8 => ?_)) | (refine AppendVC.bytes (xs := tagsN key info (i + 1)) (ys := tagN key info (i + 1 + 1)) tab_ok apb rfl (by repeat (first | exact Take.head _ | apply Take.tail)) hf rfl rfl (holds_br (by repeat (first | exact List.Mem.head _ | refine List.Mem.tail _ ?_)) rfl) (by show (2 * (_ + _) + 192) * 1 ≤ _; omega) (fun b9 r9 fr9 hf9 => ?_)) | refine Need.mk (by rw [List.length_append, List.length_map]; omega) ?_ | refine Need.au ?_ | (refine Split.mk (fun hsplit => ?_) (fun hsplit => ?_) <;> (try simp only [List.cons.injEq, and_true, true_and, not_true_eq_false, not_false_eq_true] at hsplit) <;> try (exfalso; omega)) | refine Pick.au ?_ | refine store_au ?_ | refine Any.mk (fun _ => ?_) | refine Both.mk ?_ ?_)); all_goals (try (conv => whnf))
    · refine again (m - 1) (by omega) (Sub.cons rfl (Sub.cons rfl (Sub.cons rfl (Sub.cons rfl (Sub.cons rfl (Sub.cons rfl Sub.nil)))))) (by repeat (first | exact List.Sublist.refl _ | exact List.nil_sublist _ | refine List.Sublist.cons_cons _ ?_ | refine List.Sublist.cons _ ?_)) ⟨i + 1 + 1, _, _, _, by omega, by omega, by omega, Tags.succ (i + 1) b9 b8_ r9 r8 fr9 fr8 _ _ _ _ ?_ rfl rfl rfl hf9 hf8, rfl⟩
      show _ = (tagsN key info (i + 1) ++ tagN key info (i + 1 + 1)).length
      rw [List.length_append]
    · rw [slice_cut0]
      have e2 := expand_of key info n.toNat (i + 1) (by omega)
      have hO := Own.row b (expand key info n.toNat) (((tagsN key info (i + 1)).drop n.toNat).map b8 ++ r) fr (by rw [← e2, ← take_row]; exact hf)
      have hl := hO.len
      refine Done.mk ⟨_, _, _, ?_, hl, hO, ?_⟩
      · rw [expand_len, ← e2, ← take_row]; rfl
      · rw [← e2, ← take_row]
        exact List.Sublist.cons_cons _ (List.nil_sublist _)
end
end Go.Proofs.YtnlheljpagpiiaaGreat
