/-
  Frames with tags: the tag of a frame, a frame sealed, has it its tag; program and document; every input. Frames with tags: the document's tag; a frame sealed; has it its tag? Program and document; every input. Frames with tags: has a frame its tag? Program and document; every input.
-/
import Derived.Test.YtnlheljpagpiiaaGreatGh
namespace Go.Proofs.YtnlheljpagpiiaaGreat
section
set_option linter.unusedVariables false
set_option linter.unusedSimpArgs false
set_option maxRecDepth 100000
set_option maxHeartbeats 8000000
open Go
/-- A row of bytes of the call's own, or none, that may have more room. -/
inductive OwnK : Option Addr → List B8 → Hp → Prop
  | none : OwnK none [] []
  | row (b : Nat) (l : List B8) (r : List Value) (fr : Nat × Nat) : OwnK (some ⟨b, 0, Option.none⟩) l [⟨b, l.map b8 ++ r, 5, fr⟩]
theorem own_k {A : Option Addr} {l : List B8} {c : Nat} {E : Hp} (h : Own A l c E) : OwnK A l E := by
  cases h with
  | none => exact OwnK.none
  | row b l r fr hf => exact OwnK.row b l r fr
theorem ownK_at {G : Cx} {hs : Hp} {w : World} {A : Option Addr} {l : List B8} {E : Hp} (h : OwnK A l E) (hsub : List.Sublist E hs) (hw : St G hs w) : At w A (l.map b8) := by
  cases h with
  | none => exact At.nil
  | row b l r fr => exact at_pre (hsub.subset (List.Mem.head _)) hw
structure GivesK (xs : List B8) (e : Int) (v : Value) (hs : Hp) : Prop where wrap ::
  raw : ∃ (A : Option Addr) (c : Nat) (E : Hp), v = .tuple #[.slice A xs.length c, .int .i64 e] ∧ xs.length ≤ c ∧ OwnK A xs E ∧ E.Sublist hs
theorem GivesX.k {xs : List B8} {e : Int} {v : Value} {hs : Hp} (h : GivesX xs e v hs) : GivesK xs e v hs := by
  obtain ⟨A, c, E, h1, h2, h3, h4⟩ := h
  exact ⟨A, c, E, h1, h2, own_k h3, h4⟩
theorem GivesK.no {e : Int} {hs : Hp} : GivesK [] e (.tuple #[.slice none 0 0, .int .i64 e]) hs := ⟨none, 0, [], rfl, Nat.le_refl _, OwnK.none, List.nil_sublist _⟩
theorem CallVC.givesXt {G : Cx} {hs : Hp} {f : Nat} {args : List Value} {K : Value → Hp → Prop} {xs : List B8} {e : Int} (hc : ∀ w, St G hs w → Ret G.P f args w (GivesX xs e))
    (hk : ∀ A c E, xs.length ≤ c → Own A xs c E → K (.tuple #[.slice A xs.length c, .int .i64 e]) (hs ++ E)) : CallVC G hs f args K := by
  refine ⟨K, fun w hw => (hc w hw).calls.mono ?_, fun _ _ h => h⟩
  rintro e' w' ⟨v, hs2, rfl, ⟨A, c, E, rfl, hl, hO, hsub⟩, hst⟩
  exact ⟨_, hs ++ E, rfl, hk A c E hl hO, ((hw.trans hst).sub (hsub.append_right hs)).perm List.perm_append_comm⟩
theorem CallVC.givesKt {G : Cx} {hs : Hp} {f : Nat} {args : List Value} {K : Value → Hp → Prop} {xs : List B8} {e : Int} (hc : ∀ w, St G hs w → Ret G.P f args w (GivesK xs e))
    (hk : ∀ A c E, xs.length ≤ c → OwnK A xs E → K (.tuple #[.slice A xs.length c, .int .i64 e]) (hs ++ E)) : CallVC G hs f args K := by
  refine ⟨K, fun w hw => (hc w hw).calls.mono ?_, fun _ _ h => h⟩
  rintro e' w' ⟨v, hs2, rfl, ⟨A, c, E, rfl, hl, hO, hsub⟩, hst⟩
  exact ⟨_, hs ++ E, rfl, hk A c E hl hO, ((hw.trans hst).sub (hsub.append_right hs)).perm List.perm_append_comm⟩
/-- The key that tags are made with. -/
def macKey (key : List B8) : List B8 := expand key (infoOf sMac []) 16
theorem mac_yes {key : List B8} (h : key.length = 16) : nextOf key sMac = (macKey key, 0) := by
  unfold nextOf kdfKey macKey
  rw [if_pos h, if_neg (by simp; decide), if_neg (by omega)]
theorem mac_no {key : List B8} (h : ¬ key.length = 16) : nextOf key sMac = ([], 1) := by
  unfold nextOf
  rw [if_neg h]
theorem macKey_len (key : List B8) : (macKey key).length = 16 := expand_len _ _ _
/-- The tag of a frame; a frame sealed; has it its tag? -/
def tagOf (s : FrS) (key : List B8) : List B8 := (hmac (macKey key) (pack (coreBits s))).take 8
def tagX (s : FrS) (key : List B8) : List B8 × Int := if key.length = 16 ∧ s.untagged.ok then (tagOf s key, 0) else ([], 1)
def FrS.withTag (s : FrS) (t : List B8) : FrS := { s with tag := t }
def sealX (s : FrS) (key : List B8) : List B8 × Int := if key.length = 16 ∧ s.untagged.ok then putX (s.withTag (tagOf s key)) else ([], 1)
def holdsX (s : FrS) (key : List B8) : Bool := decide ((key.length = 16 ∧ s.untagged.ok) ∧ tagOf s key = s.tag)
theorem tagOf_len (s : FrS) (key : List B8) : (tagOf s key).length = 8 := by
  unfold tagOf
  rw [List.length_take, hmac_len]
  rfl
/-- A frame's rows lie in a world. -/
structure FAt (w : World) (f : Fr) : Prop where
  key : At w f.key.a (f.key.l.map b8)
  body : At w f.body.a (f.body.l.map b8)
  tag : At w f.tag.a (f.tag.l.map b8)
attribute [local irreducible] bitsOf shlOf shrOf pack numBits bytesBits coreBits crcSum tagOf macKey FrS.ok
theorem tag_yes (f : Fr) (A : Option Addr) (key : List B8) (ck : Nat) (hck : key.length ≤ ck) (h16 : key.length = 16 ∧ f.s.untagged.ok) (w : World) (hA : At w A (key.map b8)) (hF : FAt w f) :
    Ret Tryz.prog 11 [f.v, .slice A key.length ck] w (GivesK (tagOf f.s key) 0) := by
  have hme := mac_yes h16.1
  have hml := macKey_len key
  have hcx : coreX f.s = (pack (coreBits f.s), 0) := by unfold coreX; rw [if_pos h16.2]
  have hcl := coreBits_len h16.2
  rw [coreBits_untagged] at hcl
  have hpl := pack_len (coreBits f.s)
  have htl := tagOf_len f.s key
  have hto : tagOf f.s key = (hmac (macKey key) (pack (coreBits f.s))).take 8 := by unfold tagOf; rfl
  refine ret_vc tab_ok Tryz.func11 rfl rfl ?_
  repeat' ((try (conv => whnf)); (first | (refine CallVC.givesXt (fun w2 h2 => mackey_r A key ck hck w2 (hA.here h2 (fun _ _ => by simp))) (fun A1 c1 E1 hl1 hO1 => ?_); rw [hme] at hl1 hO1 ⊢; dsimp only at hl1 hO1 ⊢) | (refine CallVC.givesXt (fun w2 h2 => fcore_r f w2 (hF.key.here h2 (fun _ _ => by simp)) (hF.body.here h2 (fun _ _ => by simp))) (fun A2 c2 E2 hl2 hO2 => ?_); rw [hcx] at hl2 hO2 ⊢; dsimp only at hl2 hO2 ⊢) | (refine CallVC.givesL (fun w2 h2 => short_r A1 (macKey key) c1 A2 (pack (coreBits f.s)) c2 8 (by omega) hl1 (by omega) hl2 (by omega) w2 (ownK_at (own_k hO1) (by repeat (first | exact List.Sublist.refl _ | exact List.sublist_append_right _ _ | refine List.Sublist.trans ?_ (List.sublist_append_left _ _) | refine List.Sublist.cons _ ?_)) h2) (ownK_at (own_k hO2) (by repeat (first | exact List.Sublist.refl _ | exact List.sublist_append_right _ _ | refine List.Sublist.trans ?_ (List.sublist_append_left _ _) | refine List.Sublist.cons _ ?_)) h2)) (fun b3 c3 r3 fr3 hl3 => ?_)) | refine Need.au ?_ | (refine Split.mk (fun hsplit => ?_) (fun hsplit => ?_) <;> (try simp only [List.cons.injEq, and_true, true_and, not_true_eq_false, not_false_eq_true] at hsplit) <;> try (exfalso; omega)) | refine Pick.au ?_ | refine store_au ?_ | refine Any.mk (fun _ => ?_) | refine Both.mk ?_ ?_)); all_goals (try (conv => whnf))
  rw [show (Int.toNat 8) = 8 from rfl, ← hto] at hl3 ⊢
  exact Done.mk ⟨_, _, _, rfl, hl3, OwnK.row b3 _ r3 fr3, List.singleton_sublist.2 (List.Mem.head _)⟩
theorem tag_no (f : Fr) (A : Option Addr) (key : List B8) (ck : Nat) (hck : key.length ≤ ck) (h16 : ¬ (key.length = 16 ∧ f.s.untagged.ok)) (w : World) (hA : At w A (key.map b8)) (hF : FAt w f) :
    Ret Tryz.prog 11 [f.v, .slice A key.length ck] w (GivesK [] 1) := by
  by_cases hk : key.length = 16
  · have hcx : coreX f.s = ([], 1) := by unfold coreX; rw [if_neg (fun h => h16 ⟨hk, h⟩)]
    have hme := mac_yes hk
    refine ret_vc tab_ok Tryz.func11 rfl rfl ?_
    repeat' ((try (conv => whnf)); (first | (refine CallVC.givesXt (fun w2 h2 => mackey_r A key ck hck w2 (hA.here h2 (fun _ _ => by simp))) (fun A1 c1 E1 hl1 hO1 => ?_); rw [hme] at hl1 hO1 ⊢; dsimp only at hl1 hO1 ⊢) | (refine CallVC.givesXt (fun w2 h2 => fcore_r f w2 (hF.key.here h2 (fun _ _ => by simp)) (hF.body.here h2 (fun _ _ => by simp))) (fun A2 c2 E2 hl2 hO2 => ?_); rw [hcx] at hl2 hO2 ⊢; dsimp only at hl2 hO2 ⊢) | refine Need.au ?_ | (refine Split.mk (fun hsplit => ?_) (fun hsplit => ?_) <;> (try simp only [List.cons.injEq, and_true, true_and, not_true_eq_false, not_false_eq_true] at hsplit) <;> try (exfalso; omega)) | refine Pick.au ?_ | refine store_au ?_ | refine Any.mk (fun _ => ?_) | refine Both.mk ?_ ?_)); all_goals (try (conv => whnf))
    exact Done.mk GivesK.no
  · have hme := mac_no hk
    refine ret_vc tab_ok Tryz.func11 rfl rfl ?_
    repeat' ((try (conv => whnf)); (first | (refine CallVC.givesXt (fun w2 h2 => mackey_r A key ck hck w2 (hA.here h2 (fun _ _ => by simp))) (fun A1 c1 E1 hl1 hO1 => ?_); rw [hme] at hl1 hO1 ⊢; dsimp only at hl1 hO1 ⊢) | refine Need.au ?_ | (refine Split.mk (fun hsplit => ?_) (fun hsplit => ?_) <;> (try simp only [List.cons.injEq, and_true, true_and, not_true_eq_false, not_false_eq_true] at hsplit) <;> try (exfalso; omega)) | refine Pick.au ?_ | refine store_au ?_ | refine Any.mk (fun _ => ?_) | refine Both.mk ?_ ?_)); all_goals (try (conv => whnf))
    exact Done.mk GivesK.no
end
section
set_option linter.unusedVariables false
set_option linter.unusedSimpArgs false
set_option maxRecDepth 100000
set_option maxHeartbeats 8000000
open Go
attribute [local irreducible] bitsOf shlOf shrOf pack numBits bytesBits coreBits crcSum tagOf macKey FrS.ok
theorem rtag_yes (f : Fr) (A : Option Addr) (key : List B8) (ck : Nat) (hck : key.length ≤ ck) (h16 : key.length = 16 ∧ f.s.untagged.ok) (w : World) (hA : At w A (key.map b8)) (hF : FAt w f) :
    Ret Tryz.prog 12 [f.v, .slice A key.length ck] w (GivesK (tagOf f.s key) 0) := by
  have hme := mac_yes h16.1
  have hml := macKey_len key
  have hcx : coreX f.s = (pack (coreBits f.s), 0) := by unfold coreX; rw [if_pos h16.2]
  have hcl := coreBits_len h16.2
  rw [coreBits_untagged] at hcl
  have hpl := pack_len (coreBits f.s)
  have htl := tagOf_len f.s key
  have hto : tagOf f.s key = (hmac (macKey key) (pack (coreBits f.s))).take 8 := by unfold tagOf; rfl
  refine ret_vc tab_ok Tryz.func12 rfl rfl ?_
  repeat' ((try (conv => whnf)); (first | (refine CallVC.givesXt (fun w2 h2 => rmackey_r A key ck hck w2 (hA.here h2 (fun _ _ => by simp))) (fun A1 c1 E1 hl1 hO1 => ?_); rw [hme] at hl1 hO1 ⊢; dsimp only at hl1 hO1 ⊢) | (refine CallVC.givesXt (fun w2 h2 => rfcore_r f w2 (hF.key.here h2 (fun _ _ => by simp)) (hF.body.here h2 (fun _ _ => by simp))) (fun A2 c2 E2 hl2 hO2 => ?_); rw [hcx] at hl2 hO2 ⊢; dsimp only at hl2 hO2 ⊢) | (refine CallVC.givesL (fun w2 h2 => rshort_r A1 (macKey key) c1 A2 (pack (coreBits f.s)) c2 8 (by omega) hl1 (by omega) hl2 (by omega) w2 (ownK_at (own_k hO1) (by repeat (first | exact List.Sublist.refl _ | exact List.sublist_append_right _ _ | refine List.Sublist.trans ?_ (List.sublist_append_left _ _) | refine List.Sublist.cons _ ?_)) h2) (ownK_at (own_k hO2) (by repeat (first | exact List.Sublist.refl _ | exact List.sublist_append_right _ _ | refine List.Sublist.trans ?_ (List.sublist_append_left _ _) | refine List.Sublist.cons _ ?_)) h2)) (fun b3 c3 r3 fr3 hl3 => ?_)) | refine Need.au ?_ | (refine Split.mk (fun hsplit => ?_) (fun hsplit => ?_) <;> (try simp only [List.cons.injEq, and_true, true_and, not_true_eq_false, not_false_eq_true] at hsplit) <;> try (exfalso; omega)) | refine Pick.au ?_ | refine store_au ?_ | refine Any.mk (fun _ => ?_) | refine Both.mk ?_ ?_)); all_goals (try (conv => whnf))
  rw [show (Int.toNat 8) = 8 from rfl, ← hto] at hl3 ⊢
  exact Done.mk ⟨_, _, _, rfl, hl3, OwnK.row b3 _ r3 fr3, List.singleton_sublist.2 (List.Mem.head _)⟩
theorem rtag_no (f : Fr) (A : Option Addr) (key : List B8) (ck : Nat) (hck : key.length ≤ ck) (h16 : ¬ (key.length = 16 ∧ f.s.untagged.ok)) (w : World) (hA : At w A (key.map b8)) (hF : FAt w f) :
    Ret Tryz.prog 12 [f.v, .slice A key.length ck] w (GivesK [] 1) := by
  by_cases hk : key.length = 16
  · have hcx : coreX f.s = ([], 1) := by unfold coreX; rw [if_neg (fun h => h16 ⟨hk, h⟩)]
    have hme := mac_yes hk
    refine ret_vc tab_ok Tryz.func12 rfl rfl ?_
    repeat' ((try (conv => whnf)); (first | (refine CallVC.givesXt (fun w2 h2 => rmackey_r A key ck hck w2 (hA.here h2 (fun _ _ => by simp))) (fun A1 c1 E1 hl1 hO1 => ?_); rw [hme] at hl1 hO1 ⊢; dsimp only at hl1 hO1 ⊢) | (refine CallVC.givesXt (fun w2 h2 => rfcore_r f w2 (hF.key.here h2 (fun _ _ => by simp)) (hF.body.here h2 (fun _ _ => by simp))) (fun A2 c2 E2 hl2 hO2 => ?_); rw [hcx] at hl2 hO2 ⊢; dsimp only at hl2 hO2 ⊢) | refine Need.au ?_ | (refine Split.mk (fun hsplit => ?_) (fun hsplit => ?_) <;> (try simp only [List.cons.injEq, and_true, true_and, not_true_eq_false, not_false_eq_true] at hsplit) <;> try (exfalso; omega)) | refine Pick.au ?_ | refine store_au ?_ | refine Any.mk (fun _ => ?_) | refine Both.mk ?_ ?_)); all_goals (try (conv => whnf))
    exact Done.mk GivesK.no
  · have hme := mac_no hk
    refine ret_vc tab_ok Tryz.func12 rfl rfl ?_
    repeat' ((try (conv => whnf)); (first | (refine CallVC.givesXt (fun w2 h2 => rmackey_r A key ck hck w2 (hA.here h2 (fun _ _ => by simp))) (fun A1 c1 E1 hl1 hO1 => ?_); rw [hme] at hl1 hO1 ⊢; dsimp only at hl1 hO1 ⊢) | refine Need.au ?_ | (refine Split.mk (fun hsplit => ?_) (fun hsplit => ?_) <;> (try simp only [List.cons.injEq, and_true, true_and, not_true_eq_false, not_false_eq_true] at hsplit) <;> try (exfalso; omega)) | refine Pick.au ?_ | refine store_au ?_ | refine Any.mk (fun _ => ?_) | refine Both.mk ?_ ?_)); all_goals (try (conv => whnf))
    exact Done.mk GivesK.no

theorem tag_r (f : Fr) (A : Option Addr) (key : List B8) (ck : Nat) (hck : key.length ≤ ck) (w : World) (hA : At w A (key.map b8)) (hF : FAt w f) :
    Ret Tryz.prog 11 [f.v, .slice A key.length ck] w (GivesK (tagX f.s key).1 (tagX f.s key).2) := by
  unfold tagX
  by_cases h : key.length = 16 ∧ f.s.untagged.ok
  · rw [if_pos h]; exact tag_yes f A key ck hck h w hA hF
  · rw [if_neg h]; exact tag_no f A key ck hck h w hA hF
theorem seal_r (f : Fr) (A : Option Addr) (key : List B8) (ck : Nat) (hck : key.length ≤ ck) (w : World) (hA : At w A (key.map b8)) (hF : FAt w f) :
    Ret Tryz.prog 13 [f.v, .slice A key.length ck] w (GivesX (sealX f.s key).1 (sealX f.s key).2) := by
  unfold sealX
  by_cases h : key.length = 16 ∧ f.s.untagged.ok
  · rw [if_pos h]
    refine ret_vc tab_ok Tryz.func13 rfl rfl ?_
    repeat' ((try (conv => whnf)); (first | (refine CallVC.givesKt (fun w2 h2 => tag_yes f A key ck hck h w2 (hA.here h2 (fun _ _ => by simp)) ⟨hF.key.here h2 (fun _ _ => by simp), hF.body.here h2 (fun _ _ => by simp), hF.tag.here h2 (fun _ _ => by simp)⟩) (fun A1 c1 E1 hl1 hO1 => ?_)) | (refine store_tag (tagOf f.s key) (by repeat (first | exact Upd.head _ | apply Upd.tail)) ?_) | (refine store_frame f (by repeat (first | exact Upd.head _ | apply Upd.tail)) rfl ?_) | (refine CallVC.givesXt (xs := (putX (f.s.withTag (tagOf f.s key))).1) (e := (putX (f.s.withTag (tagOf f.s key))).2) (fun w2 h2 => fput_r (f.tagged _ (tagOf f.s key) _) w2 (hF.key.here h2 (fun _ _ => by simp)) (hF.body.here h2 (fun _ _ => by simp)) (ownK_at hO1 (by repeat (first | exact List.Sublist.refl _ | exact List.sublist_append_right _ _ | refine List.Sublist.trans ?_ (List.sublist_append_left _ _) | refine List.Sublist.cons _ ?_)) h2)) (fun A2 c2 E2 hl2 hO2 => ?_)) | refine Need.au ?_ | (refine Split.mk (fun hsplit => ?_) (fun hsplit => ?_) <;> (try simp only [List.cons.injEq, and_true, true_and, not_true_eq_false, not_false_eq_true] at hsplit) <;> try (exfalso; omega)) | refine Pick.au ?_ | refine store_au ?_ | refine Any.mk (fun _ => ?_) | refine Both.mk ?_ ?_)); all_goals (try (conv => whnf))
    exact Done.mk ⟨_, _, _, rfl, hl2, hO2, (by repeat (first | exact List.Sublist.refl _ | exact List.sublist_append_right _ _ | refine List.Sublist.trans ?_ (List.sublist_append_left _ _) | refine List.Sublist.cons _ ?_))⟩
  · rw [if_neg h]
    refine ret_vc tab_ok Tryz.func13 rfl rfl ?_
    repeat' ((try (conv => whnf)); (first | (refine CallVC.givesKt (fun w2 h2 => tag_no f A key ck hck h w2 (hA.here h2 (fun _ _ => by simp)) ⟨hF.key.here h2 (fun _ _ => by simp), hF.body.here h2 (fun _ _ => by simp), hF.tag.here h2 (fun _ _ => by simp)⟩) (fun A1 c1 E1 hl1 hO1 => ?_)) | (refine store_tag [] (by repeat (first | exact Upd.head _ | apply Upd.tail)) ?_) | refine Need.au ?_ | (refine Split.mk (fun hsplit => ?_) (fun hsplit => ?_) <;> (try simp only [List.cons.injEq, and_true, true_and, not_true_eq_false, not_false_eq_true] at hsplit) <;> try (exfalso; omega)) | refine Pick.au ?_ | refine store_au ?_ | refine Any.mk (fun _ => ?_) | refine Both.mk ?_ ?_)); all_goals (try (conv => whnf))
    exact Done.mk GivesX.no

theorem rtag_r (f : Fr) (A : Option Addr) (key : List B8) (ck : Nat) (hck : key.length ≤ ck) (w : World) (hA : At w A (key.map b8)) (hF : FAt w f) :
    Ret Tryz.prog 12 [f.v, .slice A key.length ck] w (GivesK (tagX f.s key).1 (tagX f.s key).2) := by
  unfold tagX
  by_cases h : key.length = 16 ∧ f.s.untagged.ok
  · rw [if_pos h]; exact rtag_yes f A key ck hck h w hA hF
  · rw [if_neg h]; exact rtag_no f A key ck hck h w hA hF
theorem rseal_r (f : Fr) (A : Option Addr) (key : List B8) (ck : Nat) (hck : key.length ≤ ck) (w : World) (hA : At w A (key.map b8)) (hF : FAt w f) :
    Ret Tryz.prog 14 [f.v, .slice A key.length ck] w (GivesX (sealX f.s key).1 (sealX f.s key).2) := by
  unfold sealX
  by_cases h : key.length = 16 ∧ f.s.untagged.ok
  · rw [if_pos h]
    refine ret_vc tab_ok Tryz.func14 rfl rfl ?_
    repeat' ((try (conv => whnf)); (first | (refine CallVC.givesKt (fun w2 h2 => rtag_yes f A key ck hck h w2 (hA.here h2 (fun _ _ => by simp)) ⟨hF.key.here h2 (fun _ _ => by simp), hF.body.here h2 (fun _ _ => by simp), hF.tag.here h2 (fun _ _ => by simp)⟩) (fun A1 c1 E1 hl1 hO1 => ?_)) | (refine store_tag (tagOf f.s key) (by repeat (first | exact Upd.head _ | apply Upd.tail)) ?_) | (refine store_frame f (by repeat (first | exact Upd.head _ | apply Upd.tail)) rfl ?_) | (refine CallVC.givesXt (xs := (putX (f.s.withTag (tagOf f.s key))).1) (e := (putX (f.s.withTag (tagOf f.s key))).2) (fun w2 h2 => rfput_r (f.tagged _ (tagOf f.s key) _) w2 (hF.key.here h2 (fun _ _ => by simp)) (hF.body.here h2 (fun _ _ => by simp)) (ownK_at hO1 (by repeat (first | exact List.Sublist.refl _ | exact List.sublist_append_right _ _ | refine List.Sublist.trans ?_ (List.sublist_append_left _ _) | refine List.Sublist.cons _ ?_)) h2)) (fun A2 c2 E2 hl2 hO2 => ?_)) | refine Need.au ?_ | (refine Split.mk (fun hsplit => ?_) (fun hsplit => ?_) <;> (try simp only [List.cons.injEq, and_true, true_and, not_true_eq_false, not_false_eq_true] at hsplit) <;> try (exfalso; omega)) | refine Pick.au ?_ | refine store_au ?_ | refine Any.mk (fun _ => ?_) | refine Both.mk ?_ ?_)); all_goals (try (conv => whnf))
    exact Done.mk ⟨_, _, _, rfl, hl2, hO2, (by repeat (first | exact List.Sublist.refl _ | exact List.sublist_append_right _ _ | refine List.Sublist.trans ?_ (List.sublist_append_left _ _) | refine List.Sublist.cons _ ?_))⟩
  · rw [if_neg h]
    refine ret_vc tab_ok Tryz.func14 rfl rfl ?_
    repeat' ((try (conv => whnf)); (first | (refine CallVC.givesKt (fun w2 h2 => rtag_no f A key ck hck h w2 (hA.here h2 (fun _ _ => by simp)) ⟨hF.key.here h2 (fun _ _ => by simp), hF.body.here h2 (fun _ _ => by simp), hF.tag.here h2 (fun _ _ => by simp)⟩) (fun A1 c1 E1 hl1 hO1 => ?_)) | (refine store_tag [] (by repeat (first | exact Upd.head _ | apply Upd.tail)) ?_) | refine Need.au ?_ | (refine Split.mk (fun hsplit => ?_) (fun hsplit => ?_) <;> (try simp only [List.cons.injEq, and_true, true_and, not_true_eq_false, not_false_eq_true] at hsplit) <;> try (exfalso; omega)) | refine Pick.au ?_ | refine store_au ?_ | refine Any.mk (fun _ => ?_) | refine Both.mk ?_ ?_)); all_goals (try (conv => whnf))
    exact Done.mk GivesX.no
theorem same2_v (a : Addr) (B : Option Addr) (xs ys : List B8) (ca cb : Nat) (hx : 0 < xs.length) (hb : xs.length ≤ 1000000) (w : World) (hA : At w (some a) (xs.map b8)) (hB : At w B (ys.map b8)) :
    Val Tryz.prog 48 [.slice (some a) xs.length ca, .slice B ys.length cb] w (.bool (decide (xs = ys))) := by
  by_cases hl : xs.length = ys.length
  · obtain ⟨b, rfl⟩ := hB.is (by rw [List.length_map]; omega)
    exact same_v a b xs ys ca cb hb w hA hB
  · rw [decide_eq_false (fun h => hl (by rw [h]))]
    refine val_vc tab_ok Tryz.func48 rfl rfl ?_
    repeat' ((try (conv => whnf)); (first | refine Pick.mk pl48_7 (by decide +kernel) ?_ | refine Need.au ?_ | (refine Split.mk (fun hsplit => ?_) (fun hsplit => ?_) <;> (try simp only [List.cons.injEq, and_true, true_and, not_true_eq_false, not_false_eq_true] at hsplit) <;> try (exfalso; omega)) | refine Pick.au ?_ | refine store_au ?_ | refine Any.mk (fun _ => ?_) | refine Both.mk ?_ ?_)); all_goals (try (conv => whnf))
    exact Done.mk rfl
end
section
set_option linter.unusedVariables false
set_option linter.unusedSimpArgs false
set_option maxRecDepth 100000
set_option maxHeartbeats 8000000
open Go
attribute [local irreducible] bitsOf shlOf shrOf pack numBits bytesBits coreBits crcSum tagOf macKey FrS.ok
theorem ownK_is {A : Option Addr} {l : List B8} {E : Hp} (h : OwnK A l E) (hl : 0 < l.length) : ∃ b r fr, A = some ⟨b, 0, none⟩ ∧ E = [⟨b, l.map b8 ++ r, 5, fr⟩] := by
  cases h with
  | none => exact absurd hl (Nat.lt_irrefl 0)
  | row b l r fr => exact ⟨b, r, fr, rfl, rfl⟩
theorem holds_v (f : Fr) (A : Option Addr) (key : List B8) (ck : Nat) (hck : key.length ≤ ck) (w : World) (hA : At w A (key.map b8)) (hF : FAt w f) :
    Val Tryz.prog 15 [f.v, .slice A key.length ck] w (.bool (holdsX f.s key)) := by
  have htl := tagOf_len f.s key
  by_cases h : key.length = 16 ∧ f.s.untagged.ok
  · have e : holdsX f.s key = decide (tagOf f.s key = f.tag.l) := by unfold holdsX; rw [show (f.s.tag = f.tag.l) from rfl]; simp [h]
    rw [e]
    refine val_vc tab_ok Tryz.func15 rfl rfl ?_
    repeat' ((try (conv => whnf)); (first | (refine CallVC.givesKt (fun w2 h2 => tag_yes f A key ck hck h w2 (hA.here h2 (fun _ _ => by simp)) ⟨hF.key.here h2 (fun _ _ => by simp), hF.body.here h2 (fun _ _ => by simp), hF.tag.here h2 (fun _ _ => by simp)⟩) (fun A1 c1 E1 hl1 hO1 => ?_); obtain ⟨b1, r1, fr1, rfl, rfl⟩ := ownK_is hO1 (by omega)) | (refine CallVC.val (fun w2 h2 => same2_v ⟨b1, 0, none⟩ f.tag.a (tagOf f.s key) f.tag.l c1 f.tag.c (by omega) (by omega) w2 (at_pre (by repeat (first | exact List.Mem.head _ | refine List.Mem.tail _ ?_)) h2) (hF.tag.here h2 (fun _ _ => by simp))) ?_) | refine Need.au ?_ | (refine Split.mk (fun hsplit => ?_) (fun hsplit => ?_) <;> (try simp only [List.cons.injEq, and_true, true_and, not_true_eq_false, not_false_eq_true] at hsplit) <;> try (exfalso; omega)) | refine Pick.au ?_ | refine store_au ?_ | refine Any.mk (fun _ => ?_) | refine Both.mk ?_ ?_)); all_goals (try (conv => whnf))
    exact Done.mk rfl
  · have e : holdsX f.s key = false := decide_eq_false (fun h2 => h h2.1)
    rw [e]
    refine val_vc tab_ok Tryz.func15 rfl rfl ?_
    repeat' ((try (conv => whnf)); (first | (refine CallVC.givesKt (fun w2 h2 => tag_no f A key ck hck h w2 (hA.here h2 (fun _ _ => by simp)) ⟨hF.key.here h2 (fun _ _ => by simp), hF.body.here h2 (fun _ _ => by simp), hF.tag.here h2 (fun _ _ => by simp)⟩) (fun A1 c1 E1 hl1 hO1 => ?_)) | refine Need.au ?_ | (refine Split.mk (fun hsplit => ?_) (fun hsplit => ?_) <;> (try simp only [List.cons.injEq, and_true, true_and, not_true_eq_false, not_false_eq_true] at hsplit) <;> try (exfalso; omega)) | refine Pick.au ?_ | refine store_au ?_ | refine Any.mk (fun _ => ?_) | refine Both.mk ?_ ?_)); all_goals (try (conv => whnf))
    exact Done.mk rfl
theorem rholds_v (f : Fr) (A : Option Addr) (key : List B8) (ck : Nat) (hck : key.length ≤ ck) (w : World) (hA : At w A (key.map b8)) (hF : FAt w f) :
    Val Tryz.prog 16 [f.v, .slice A key.length ck] w (.bool (holdsX f.s key)) := by
  have htl := tagOf_len f.s key
  by_cases h : key.length = 16 ∧ f.s.untagged.ok
  · have e : holdsX f.s key = decide (tagOf f.s key = f.tag.l) := by unfold holdsX; rw [show (f.s.tag = f.tag.l) from rfl]; simp [h]
    rw [e]
    refine val_vc tab_ok Tryz.func16 rfl rfl ?_
    repeat' ((try (conv => whnf)); (first | (refine CallVC.givesKt (fun w2 h2 => rtag_yes f A key ck hck h w2 (hA.here h2 (fun _ _ => by simp)) ⟨hF.key.here h2 (fun _ _ => by simp), hF.body.here h2 (fun _ _ => by simp), hF.tag.here h2 (fun _ _ => by simp)⟩) (fun A1 c1 E1 hl1 hO1 => ?_); obtain ⟨b1, r1, fr1, rfl, rfl⟩ := ownK_is hO1 (by omega)) | refine Pick.mk _ (conv_own (by repeat (first | exact List.Mem.head _ | refine List.Mem.tail _ ?_)) rfl) ?_ | refine Pick.mk _ (conv_arg hF.tag (by simp) rfl) ?_ | refine Need.au ?_ | (refine Split.mk (fun hsplit => ?_) (fun hsplit => ?_) <;> (try simp only [List.cons.injEq, and_true, true_and, not_true_eq_false, not_false_eq_true] at hsplit) <;> try (exfalso; omega)) | refine Pick.au ?_ | refine store_au ?_ | refine Any.mk (fun _ => ?_) | refine Both.mk ?_ ?_)); all_goals (try (conv => whnf))
    · exact Done.mk (by rw [decide_eq_true ((str_eq _ _).1 (by simpa using hsplit))]; rfl)
    · exact Done.mk (by rw [decide_eq_false (fun h => hsplit (by rw [h]))]; rfl)
  · have e : holdsX f.s key = false := decide_eq_false (fun h2 => h h2.1)
    rw [e]
    refine val_vc tab_ok Tryz.func16 rfl rfl ?_
    repeat' ((try (conv => whnf)); (first | (refine CallVC.givesKt (fun w2 h2 => rtag_no f A key ck hck h w2 (hA.here h2 (fun _ _ => by simp)) ⟨hF.key.here h2 (fun _ _ => by simp), hF.body.here h2 (fun _ _ => by simp), hF.tag.here h2 (fun _ _ => by simp)⟩) (fun A1 c1 E1 hl1 hO1 => ?_)) | refine Need.au ?_ | (refine Split.mk (fun hsplit => ?_) (fun hsplit => ?_) <;> (try simp only [List.cons.injEq, and_true, true_and, not_true_eq_false, not_false_eq_true] at hsplit) <;> try (exfalso; omega)) | refine Pick.au ?_ | refine store_au ?_ | refine Any.mk (fun _ => ?_) | refine Both.mk ?_ ?_)); all_goals (try (conv => whnf))
    exact Done.mk rfl
end
end Go.Proofs.YtnlheljpagpiiaaGreat
