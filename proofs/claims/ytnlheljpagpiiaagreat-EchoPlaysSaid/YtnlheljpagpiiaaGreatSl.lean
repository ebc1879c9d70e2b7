/-
  Tags, in the program: the pads of a key; a tag that is made; every input.
-/
import Derived.Test.YtnlheljpagpiiaaGreatSk
set_option linter.unusedVariables false
set_option linter.unusedSimpArgs false
set_option maxRecDepth 100000
set_option maxHeartbeats 4000000
namespace Go.Proofs.YtnlheljpagpiiaaGreat
open Go
attribute [local irreducible] bitsOf shlOf shrOf

theorem padOf_eq (key k : List B8) (c : B8) (h : k = keyOf key) : (k ++ List.replicate (64 - k.length) 0).map (· ^^^ c) = padOf key c := by rw [padOf, ← h]
/-- The two pads of a key, as 'pads' hands them back. -/
def Pads (key : List B8) (v : Value) (hs : Hp) : Prop := ∃ (b1 : Nat) (r1 : List Value) (fr1 : Nat × Nat) (b2 : Nat) (r2 : List Value) (fr2 : Nat × Nat),
  v = .tuple #[.slice (some ⟨b1, 0, none⟩) (padOf key 0x36).length ((padOf key 0x36).map b8 ++ r1).length, .slice (some ⟨b2, 0, none⟩) (padOf key 0x5C).length ((padOf key 0x5C).map b8 ++ r2).length] ∧
  Soft fr1 ((padOf key 0x36).map b8 ++ r1).length ∧ Soft fr2 ((padOf key 0x5C).map b8 ++ r2).length ∧ Sbp [⟨b2, (padOf key 0x5C).map b8 ++ r2, 5, fr2⟩, ⟨b1, (padOf key 0x36).map b8 ++ r1, 5, fr1⟩] hs
theorem pads_r (A : Option Addr) (key : List B8) (cap : Nat) (hb : key.length ≤ 1048576) (hc : key.length ≤ cap) (w : World) (hA : At w A (key.map b8)) :
    Ret Tryz.prog 141 [.slice A key.length cap] w (Pads key) := by
  have hk64 := keyOf_len key
  have pd : ∀ (c : B8) (w' : World) (kp : Nat) (A' : Option Addr) (cap' : Nat) (k : List B8), k = keyOf key → At w' (some ⟨kp, 0, none⟩) [.slice A' k.length cap'] → At w' A' (k.map b8) → Ret Tryz.prog 160 [b8 c, .pointer (some ⟨kp, 0, none⟩)] w' (Gives 5 ((padOf key c).map b8)) := by
    intro c w' kp A' cap' k hk h1 h2
    rw [← padOf_eq key k c hk]
    exact pad_r kp A' k cap' c (by rw [hk]; exact hk64) w' h1 h2
  refine ret_vc tab_ok Tryz.func141 rfl rfl ?_
  repeat' ((try (conv => whnf)); (first | refine CallVC.givesEB (fun w hw => of_r A key cap hb hc w (hA.here hw (fun _ _ => by simp))) (fun b1 r1 fr1 hf1 => ?_) | refine Need.au ?_ | (refine Split.mk (fun hsplit => ?_) (fun hsplit => ?_) <;> (try simp only [List.cons.injEq, and_true, true_and, not_true_eq_false, not_false_eq_true] at hsplit) <;> try (exfalso; omega)) | refine Pick.au ?_ | refine store_au ?_ | refine Any.mk (fun _ => ?_) | refine Both.mk ?_ ?_)); all_goals (try (conv => whnf))
  · have hk : sha key = keyOf key := by rw [keyOf, if_pos (by omega)]
    repeat' ((try (conv => whnf)); (first | refine CallVC.givesB (fun w hw => pd 0x36 w _ _ _ (sha key) hk (at_own (off := 0) (by repeat (first | exact List.Mem.head _ | refine List.Mem.tail _ ?_)) hw (fun i v hv => by rw [Nat.zero_add]; exact hv)) (at_pre (by repeat (first | exact List.Mem.head _ | refine List.Mem.tail _ ?_)) hw)) (fun b2 r2 fr2 hf2 => ?_) | refine CallVC.givesB (fun w hw => pd 0x5C w _ _ _ (sha key) hk (at_own (off := 0) (by repeat (first | exact List.Mem.head _ | refine List.Mem.tail _ ?_)) hw (fun i v hv => by rw [Nat.zero_add]; exact hv)) (at_pre (by repeat (first | exact List.Mem.head _ | refine List.Mem.tail _ ?_)) hw)) (fun b3 r3 fr3 hf3 => ?_) | refine Need.au ?_ | (refine Split.mk (fun hsplit => ?_) (fun hsplit => ?_) <;> (try simp only [List.cons.injEq, and_true, true_and, not_true_eq_false, not_false_eq_true] at hsplit) <;> try (exfalso; omega)) | refine Pick.au ?_ | refine store_au ?_ | refine Any.mk (fun _ => ?_) | refine Both.mk ?_ ?_)); all_goals (try (conv => whnf))
    exact Done.mk ⟨b2, r2, fr2, b3, r3, fr3, rfl, hf2, hf3, ⟨_, List.Perm.refl _, List.Sublist.cons_cons _ (List.Sublist.cons_cons _ (List.nil_sublist _))⟩⟩
  · have hk : key = keyOf key := by rw [keyOf, if_neg (by omega)]
    repeat' ((try (conv => whnf)); (first | refine CallVC.givesB (fun w hw => pd 0x36 w _ _ _ key hk (at_own (off := 0) (by repeat (first | exact List.Mem.head _ | refine List.Mem.tail _ ?_)) hw (fun i v hv => by rw [Nat.zero_add]; exact hv)) (hA.here hw (fun _ _ => by simp))) (fun b2 r2 fr2 hf2 => ?_) | refine CallVC.givesB (fun w hw => pd 0x5C w _ _ _ key hk (at_own (off := 0) (by repeat (first | exact List.Mem.head _ | refine List.Mem.tail _ ?_)) hw (fun i v hv => by rw [Nat.zero_add]; exact hv)) (hA.here hw (fun _ _ => by simp))) (fun b3 r3 fr3 hf3 => ?_) | refine Need.au ?_ | (refine Split.mk (fun hsplit => ?_) (fun hsplit => ?_) <;> (try simp only [List.cons.injEq, and_true, true_and, not_true_eq_false, not_false_eq_true] at hsplit) <;> try (exfalso; omega)) | refine Pick.au ?_ | refine store_au ?_ | refine Any.mk (fun _ => ?_) | refine Both.mk ?_ ?_)); all_goals (try (conv => whnf))
    exact Done.mk ⟨b2, r2, fr2, b3, r3, fr3, rfl, hf2, hf3, ⟨_, List.Perm.refl _, List.Sublist.cons_cons _ (List.Sublist.cons_cons _ (List.nil_sublist _))⟩⟩
/-- A tag's block: where its digest lies, the outer pad. -/
def macE (mp p : Nat) (out : Value) : Ent := ⟨mp, [.pointer (some ⟨p, 0, none⟩), out], 201, (0, 0)⟩
theorem mac_none_v (mp p : Nat) (out : Value) (w : World) (h : At w (some ⟨mp, 0, none⟩) [.pointer (some ⟨p, 0, none⟩), out]) : Val Tryz.prog 144 [.pointer (some ⟨mp, 0, none⟩)] w (.bool false) := by
  refine val_vc tab_ok Tryz.func144 rfl rfl ?_
  repeat' ((try (conv => whnf)); (first | refine Pick.mk _ (cell_known h (by simp) rfl) ?_ | refine Need.au ?_ | (refine Split.mk (fun hsplit => ?_) (fun hsplit => ?_) <;> (try simp only [List.cons.injEq, and_true, true_and, not_true_eq_false, not_false_eq_true] at hsplit) <;> try (exfalso; omega)) | refine Pick.au ?_ | refine store_au ?_ | refine Any.mk (fun _ => ?_) | refine Both.mk ?_ ?_)); all_goals (try (conv => whnf))
  all_goals first | exact Done.mk rfl | (exfalso; contradiction)
/-- What 'New' makes. -/
def NewMac (key : List B8) (v : Value) (hs : Hp) : Prop := ∃ (mp p b : Nat) (r : List Value) (fr : Nat × Nat) (A : Option Addr) (c : Nat), v = .tuple #[.pointer (some ⟨mp, 0, none⟩), .int .i64 0] ∧ (rest (padOf key 0x36)).length ≤ c ∧
  Sbp [macE mp p (.slice (some ⟨b, 0, none⟩) (padOf key 0x5C).length ((padOf key 0x5C).map b8 ++ r).length), digM p (padOf key 0x36) A c, ⟨b, (padOf key 0x5C).map b8 ++ r, 5, fr⟩] hs
theorem rest_pad (key : List B8) (c : B8) : rest (padOf key c) = [] := by
  apply List.eq_nil_of_length_eq_zero
  rw [rest_len, padOf_len]
section
variable {G : Cx} {hs : Hp}
theorem CallVC.pads {K : Value → Hp → Prop} {A : Option Addr} {key : List B8} {cap : Nat} (hP : G.P = Tryz.prog) (hb : key.length ≤ 1048576) (hc : key.length ≤ cap) (hA : ∀ w, St G hs w → At w A (key.map b8))
    (hk : ∀ b1 r1 fr1 b2 r2 fr2, K (.tuple #[.slice (some ⟨b1, 0, none⟩) (padOf key 0x36).length ((padOf key 0x36).map b8 ++ r1).length, .slice (some ⟨b2, 0, none⟩) (padOf key 0x5C).length ((padOf key 0x5C).map b8 ++ r2).length])
      (⟨b2, (padOf key 0x5C).map b8 ++ r2, 5, fr2⟩ :: ⟨b1, (padOf key 0x36).map b8 ++ r1, 5, fr1⟩ :: hs)) : CallVC G hs 141 [.slice A key.length cap] K := by
  refine ⟨K, fun w hw => (hP ▸ pads_r A key cap hb hc w (hA w hw)).calls.mono ?_, fun _ _ h => h⟩
  rintro e w' ⟨v, hs2, rfl, ⟨b1, r1, fr1, b2, r2, fr2, rfl, _, _, hsb⟩, hst⟩
  refine ⟨_, _, rfl, hk b1 r1 fr1 b2 r2 fr2, ?_⟩
  have := hw.trans hst
  obtain ⟨l, h1, h2⟩ := hsb
  exact (this.sub (h2.append_right hs)).perm (h1.append_right hs)
end
theorem newmac_r (A : Option Addr) (key : List B8) (cap : Nat) (hb : key.length ≤ 1048576) (hc : key.length ≤ cap) (w : World) (hA : At w A (key.map b8)) :
    Ret Tryz.prog 106 [.slice A key.length cap] w (NewMac key) := by
  refine ret_vc tab_ok Tryz.func106 rfl rfl ?_
  repeat' ((try (conv => whnf)); (first | (refine CallVC.pads rfl hb hc (fun w hw => hA.here hw (fun _ _ => by simp)) (fun b1 r1 fr1 b2 r2 fr2 => ?_)) | refine CallVC.newDig rfl (fun p => ?_) | (refine CallVC.wrote (m := []) [_, _] rfl (List.Perm.refl _) (fun w _ => by rw [(run_short S8.begin [] (by decide)).2]; exact At.nil) (by rw [(run_short S8.begin [] (by decide)).2]; exact Nat.le_refl _) (fun w hw => at_pre (by repeat (first | exact List.Mem.head _ | refine List.Mem.tail _ ?_)) hw) (by simp) (by rw [padOf_len]; decide) (fun A' c' L hc' hL => ?_)) | refine Need.au ?_ | (refine Split.mk (fun hsplit => ?_) (fun hsplit => ?_) <;> (try simp only [List.cons.injEq, and_true, true_and, not_true_eq_false, not_false_eq_true] at hsplit) <;> try (exfalso; omega)) | refine Pick.au ?_ | refine store_au ?_ | refine Any.mk (fun _ => ?_) | refine Both.mk ?_ ?_)); all_goals (try (conv => whnf))
  exact Done.mk ⟨_, p, b2, r2, fr2, A', c', rfl, hc', ⟨_, List.Perm.refl _, List.Sublist.cons_cons _ (List.Sublist.cons_cons _ (List.Sublist.cons_cons _ (List.nil_sublist _)))⟩⟩
section
variable {G : Cx} {hs : Hp}
theorem CallVC.newMac {K : Value → Hp → Prop} {A : Option Addr} {key : List B8} {cap : Nat} (hP : G.P = Tryz.prog) (hb : key.length ≤ 1048576) (hc : key.length ≤ cap) (hA : ∀ w, St G hs w → At w A (key.map b8))
    (hk : ∀ mp p b r fr A' c, (rest (padOf key 0x36)).length ≤ c → K (.tuple #[.pointer (some ⟨mp, 0, none⟩), .int .i64 0])
      (digM p (padOf key 0x36) A' c :: macE mp p (.slice (some ⟨b, 0, none⟩) (padOf key 0x5C).length ((padOf key 0x5C).map b8 ++ r).length) :: ⟨b, (padOf key 0x5C).map b8 ++ r, 5, fr⟩ :: hs)) : CallVC G hs 106 [.slice A key.length cap] K := by
  refine ⟨K, fun w hw => (hP ▸ newmac_r A key cap hb hc w (hA w hw)).calls.mono ?_, fun _ _ h => h⟩
  rintro e w' ⟨v, hs2, rfl, ⟨mp, p, b, r, fr, A', c, rfl, hc', hsb⟩, hst⟩
  refine ⟨_, _, rfl, hk mp p b r fr A' c hc', ?_⟩
  have := hw.trans hst
  obtain ⟨l, h1, h2⟩ := hsb
  exact ((this.sub (h2.append_right hs)).perm (h1.append_right hs)).perm (List.Perm.swap _ _ _)
theorem CallVC.wroteF {K : Value → Hp → Prop} {f : Nat} {args : List Value} {p : Nat} {m : List B8} {Al : Option Addr} {cl : Nat} {bs : List B8} (others : Hp) (hp : hs.Perm (digM p m Al cl :: others)) (hold : ∀ w, St G others w → At w Al ((rest m).map b8))
    (hm : ∀ w, St G hs w → St ⟨G.P, w, [p]⟩ [digM p m Al cl] w → Mut G.P f args w [digM p m Al cl] (Wrote p ((S8.begin.run m).run (rest m ++ bs)) (m.length + bs.length) Al (rest m) (rest (rest m ++ bs))))
    (hk : ∀ A' c' L, (rest (m ++ bs)).length ≤ c' → (∀ w, St G (others ++ L) w → At w A' ((rest (m ++ bs)).map b8)) → K (.int .i64 0) (digM p (m ++ bs) A' c' :: (others ++ L))) :
    CallVC G hs f args K := by
  refine ⟨K, fun w hw => ?_, fun _ _ h => h⟩
  have hw' := hw.perm hp
  have ho : St G others w := hw'.sub (List.sublist_cons_self _ _)
  refine (hm w hw (hw.only (pre := [digM p m Al cl]) (rest := others) hp)).calls.mono ?_
  rintro e w' ⟨v, hs2, rfl, ⟨rfl, A', c', L, hsb, hc', hL⟩, hst⟩
  obtain ⟨e1, e2⟩ := run_app S8.begin m bs
  rw [← e1, ← e2, ← List.length_append] at hsb
  rw [← e2] at hc' hL
  refine ⟨_, digM p (m ++ bs) A' c' :: (others ++ L), rfl, hk A' c' L hc' ?_, ?_⟩
  · intro w2 hw2
    cases hL with
    | nil h hA => rw [h]; exact At.nil
    | own b r fr hA => subst hA; exact at_pre (List.mem_append_right _ (List.Mem.head _)) hw2
    | old h hA => rw [h]; exact hA w2 (hold w2 (hw2.sub (List.sublist_append_left _ _)))
  · have h2 := hw.transM (pre := [digM p m Al cl]) (rest := others) hp (hst.sbp hsb)
    exact h2.perm (List.Perm.cons _ List.perm_append_comm)
end
theorem Wrote.more {p : Nat} {s : S8} {n : Nat} {Al : Option Addr} {l xs : List B8} {v : Value} {hs : Hp} (h : Wrote p s n Al l xs v hs) (r : Hp) : Wrote p s n Al l xs v (hs ++ r) := by
  obtain ⟨h1, A, c, L, ⟨z, h2, h3⟩, h4, h5⟩ := h
  exact ⟨h1, A, c, L, ⟨z, h2, h3.trans (List.sublist_append_left _ _)⟩, h4, h5⟩
theorem inside_m (p : Nat) (s : S8) (l : List B8) (n : Nat) (Al : Option Addr) (cl : Nat) (A : Option Addr) (bs : List B8) (c : Nat) (hb : n + bs.length ≤ 1048576) (hl64 : l.length < 64) (hcl : l.length ≤ cl) (hc : bs.length ≤ c) (w : World)
    (hw : St ⟨Tryz.prog, w, [p]⟩ [digE p s (.slice Al l.length cl) n] w) (hl : At w Al (l.map b8)) (h : At w A (bs.map b8)) :
    Mut Tryz.prog 145 [.agg #[.pointer (some ⟨p, 0, none⟩)], .slice A bs.length c] w [digE p s (.slice Al l.length cl) n] (Wrote p (s.run (l ++ bs)) (n + bs.length) Al l (rest (l ++ bs))) := by
  have hal : ∀ {hs : Hp} {w' : World}, St ⟨Tryz.prog, w, [p]⟩ hs w' → At w' Al (l.map b8) := fun {hs w'} h2 => by
    by_cases hx : l = []
    · subst hx; exact At.nil
    · exact hl.here h2 (dig_apart hw hl hx)
  have hab : ∀ {hs : Hp} {w' : World}, St ⟨Tryz.prog, w, [p]⟩ hs w' → At w' A (bs.map b8) := fun {hs w'} h2 => by
    by_cases hx : bs = []
    · subst hx; exact At.nil
    · exact h.here h2 (dig_apart hw h hx)
  refine mut_vc tab_ok Tryz.func145 rfl rfl hw ?_
  repeat' ((try (conv => whnf)); (first | (refine CallVC.mut [digE p s (.slice Al l.length cl) n] [_] (List.Perm.swap _ _ _) (fun w2 h2 h3 => write_m p s l n Al cl A bs c hb hl64 hcl hc w2 h3 (hal h2) (hab h2)) (fun v hs2 hR => ?_)) | refine Need.au ?_ | (refine Split.mk (fun hsplit => ?_) (fun hsplit => ?_) <;> (try simp only [List.cons.injEq, and_true, true_and, not_true_eq_false, not_false_eq_true] at hsplit) <;> try (exfalso; omega)) | refine Pick.au ?_ | refine store_au ?_ | refine Any.mk (fun _ => ?_) | refine Both.mk ?_ ?_)); all_goals (try (conv => whnf))
  exact Done.mk (hR.more _)
theorem macwrite_m (mp p : Nat) (out : Value) (hne : mp ≠ p) (s : S8) (l : List B8) (n : Nat) (Al : Option Addr) (cl : Nat) (A : Option Addr) (bs : List B8) (c : Nat) (hb : n + bs.length ≤ 1048576) (hl64 : l.length < 64) (hcl : l.length ≤ cl) (hc : bs.length ≤ c) (w : World)
    (hm : At w (some ⟨mp, 0, none⟩) [.pointer (some ⟨p, 0, none⟩), out])
    (hw : St ⟨Tryz.prog, w, [p]⟩ [digE p s (.slice Al l.length cl) n] w) (hl : At w Al (l.map b8)) (h : At w A (bs.map b8)) :
    Mut Tryz.prog 107 [.pointer (some ⟨mp, 0, none⟩), .slice A bs.length c] w [digE p s (.slice Al l.length cl) n] (Wrote p (s.run (l ++ bs)) (n + bs.length) Al l (rest (l ++ bs))) := by
  have hal : ∀ {hs : Hp} {w' : World}, St ⟨Tryz.prog, w, [p]⟩ hs w' → At w' Al (l.map b8) := fun {hs w'} h2 => by
    by_cases hx : l = []
    · subst hx; exact At.nil
    · exact hl.here h2 (dig_apart hw hl hx)
  have hab : ∀ {hs : Hp} {w' : World}, St ⟨Tryz.prog, w, [p]⟩ hs w' → At w' A (bs.map b8) := fun {hs w'} h2 => by
    by_cases hx : bs = []
    · subst hx; exact At.nil
    · exact h.here h2 (dig_apart hw h hx)
  have hmn : mp ∉ [p] := fun h => hne (List.mem_singleton.1 h)
  have hmm : ∀ {hs : Hp} {w' : World}, St ⟨Tryz.prog, w, [p]⟩ hs w' → At w' (some ⟨mp, 0, none⟩) [.pointer (some ⟨p, 0, none⟩), out] := fun {hs w'} h2 => hm.here h2 (fun a ha => by obtain rfl := Option.some.inj ha; exact hmn)
  refine mut_vc tab_ok Tryz.func107 rfl rfl hw ?_
  repeat' ((try (conv => whnf)); (first | refine CallVC.val (fun w2 h2 => mac_none_v mp p out w2 (hmm h2)) ?_ | refine Pick.mk _ (part_known (n := 1) hm hmn rfl) ?_ | (refine CallVC.mut [digE p s (.slice Al l.length cl) n] [] (List.Perm.refl _) (fun w2 h2 h3 => inside_m p s l n Al cl A bs c hb hl64 hcl hc w2 h3 (hal h2) (hab h2)) (fun v hs2 hR => ?_)) | refine Need.au ?_ | (refine Split.mk (fun hsplit => ?_) (fun hsplit => ?_) <;> (try simp only [List.cons.injEq, and_true, true_and, not_true_eq_false, not_false_eq_true] at hsplit) <;> try (exfalso; omega)) | refine Pick.au ?_ | refine store_au ?_ | refine Any.mk (fun _ => ?_) | refine Both.mk ?_ ?_)); all_goals (try (conv => whnf))
  exact Done.mk (hR.more _)
theorem macsum_r (mp p : Nat) (key m : List B8) (Ao : Option Addr) (co : Nat) (A : Option Addr) (c : Nat) (hn : m.length ≤ 1048576) (w : World) (hm : At w (some ⟨mp, 0, none⟩) [.pointer (some ⟨p, 0, none⟩), .slice Ao (padOf key 0x5C).length co])
    (hd : At w (some ⟨p, 0, none⟩) (digM p m A c).cs) (hl : At w A ((rest m).map b8)) (ho : At w Ao ((padOf key 0x5C).map b8)) :
    Ret Tryz.prog 108 [.pointer (some ⟨mp, 0, none⟩)] w (GivesE 5 ((sha (padOf key 0x5C ++ sha m)).map b8) (.int .i64 0)) := by
  have hpl := padOf_len key 0x5C
  have hsl := sha_len m
  refine ret_vc tab_ok Tryz.func108 rfl rfl ?_
  repeat' ((try (conv => whnf)); (first | refine CallVC.val (fun w2 h2 => mac_none_v mp p _ w2 (hm.here h2 (fun _ _ => by simp))) ?_ | refine Pick.mk _ (cell_known hm (by simp) rfl) ?_ | (refine CallVC.givesEB (xs := sha m) (fun w2 h2 => sha_finish m ▸ sum_r p (S8.begin.run m) A (rest m) c m.length (rest_lt m) (by omega) w2 (hd.here h2 (fun _ _ => by simp)) (hl.here h2 (fun _ _ => by simp))) (fun b1 r1 fr1 hf1 => ?_)) | (refine AppendVC.nil tab_ok apb (Holds.at (by simp) ho (by simp)) (by show (2 * _ + 192) * 1 ≤ _; omega) (fun h0 => by rw [hpl] at h0; cases h0) (fun _ b2 c2 hc2 => ?_)) | (refine AppendVC.bytes (xs := padOf key 0x5C) (ys := sha m) tab_ok apb rfl (by repeat (first | exact Take.head _ | apply Take.tail)) soft0 (by rw [List.length_append, List.length_map, zerosL_len]; omega) rfl (Holds.own (by repeat (first | exact List.Mem.head _ | refine List.Mem.tail _ ?_)) 0 (by rw [List.drop_zero, ← List.length_map (f := b8), List.take_left]) (by simp)) (by show (2 * (_ + _) + 192) * 1 ≤ _; omega) (fun b5 r5 fr5 hf5 => ?_)) | (refine CallVC.givesEB (fun w2 h2 => of_r _ (padOf key 0x5C ++ sha m) _ (by rw [List.length_append]; omega) (by simp) w2 (at_pre (by repeat (first | exact List.Mem.head _ | refine List.Mem.tail _ ?_)) h2)) (fun b6 r6 fr6 hf6 => ?_)) | (refine CallVC.eqv (by rw [← List.length_append]) ?_) | refine Need.au ?_ | (refine Split.mk (fun hsplit => ?_) (fun hsplit => ?_) <;> (try simp only [List.cons.injEq, and_true, true_and, not_true_eq_false, not_false_eq_true] at hsplit) <;> try (exfalso; omega)) | refine Pick.au ?_ | refine store_au ?_ | refine Any.mk (fun _ => ?_) | refine Both.mk ?_ ?_)); all_goals (try (conv => whnf))
  exact Done.mk ⟨_, rfl, Gives.mk (by repeat (first | exact List.Mem.head _ | refine List.Mem.tail _ ?_)) (by rw [List.length_map]) rfl hf6⟩
end Go.Proofs.YtnlheljpagpiiaaGreat
