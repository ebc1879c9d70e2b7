/-
  The law SealTags returns true; every input. The program computes at all.
-/
import Derived.Test.YtnlheljpagpiiaaGreatMn
set_option linter.unusedVariables false
set_option linter.unusedSimpArgs false
set_option maxRecDepth 100000
set_option maxHeartbeats 8000000
namespace Go.Proofs.YtnlheljpagpiiaaGreat
open Go
theorem withTag_ok {s : FrS} {t : List B8} (hok : s.untagged.ok) (ht : t.length = 8) : (s.withTag t).ok := ⟨⟨hok.1.1, ht, hok.1.2.2⟩, hok.2⟩
theorem seal_ok {s : FrS} {key : List B8} (h16 : key.length = 16) (hok : s.untagged.ok) : sealX s key = (frameBytes (s.withTag (tagOf s key)), 0) := by
  have h2 := withTag_ok hok (tagOf_len s key)
  unfold sealX putX
  rw [if_pos ⟨h16, hok⟩, if_pos h2]
theorem coreBits_withTag (s : FrS) (t : List B8) : coreBits (s.withTag t) = coreBits s := by unfold coreBits; rfl
theorem ping_len {s : FrS} (hk : s.kind = 2) (ht : s.tag.length = 8) : (frameBytes s).length = 21 := by
  have hc : (coreBits s).length = 76 := by
    unfold coreBits
    rw [if_neg (by omega), if_pos hk]
    simp only [pingBits, headBits, List.length_append, pBits_len, wSum]
  unfold frameBytes
  rw [fixB_len, pack_len, List.length_append, hc, bytesBits_len, ht]
/-- The frame that 'awake' seals. -/
def awF : Fr := ⟨2, 1, 2, 0, 0, 0, 3#64, 0, 0, 0, slNil, slNil, slNil⟩
def zero16 : List B8 := [0, 0, 0, 0, 0, 0, 0, 0, 0, 0, 0, 0, 0, 0, 0, 0]
theorem aw_ok : awF.s.untagged.ok := by
  show awF.s.untagged.fr.ok
  exact ⟨⟨by decide, rfl, by decide, by decide, by decide, by decide, by decide, by decide, by decide, by decide⟩, Or.inr (Or.inl ⟨rfl, ⟨rfl, rfl, rfl⟩, ⟨rfl, rfl⟩, ⟨by decide, by decide⟩, rfl, rfl, rfl⟩)⟩
attribute [local irreducible] bitsOf shlOf shrOf pack numBits bytesBits coreBits crcSum tagOf macKey FrS.ok frameBytes sealX
theorem awake10_v (w : World) : Val Tryz.prog 17 [] w (.bool true) := by
  have hs := seal_ok (key := zero16) rfl aw_ok
  have hl := ping_len (s := awF.s.withTag (tagOf awF.s zero16)) rfl (tagOf_len _ _)
  refine val_vc tab_ok Tryz.func17 rfl rfl ?_
  repeat' ((try (conv => whnf)); (first | (refine CallVC.givesXt (fun w2 h2 => seal_r awF _ zero16 16 (by decide) w2 (at_own (off := 0) (by repeat (first | exact List.Mem.head _ | refine List.Mem.tail _ ?_)) h2 (fun i v hv => by rw [Nat.zero_add]; exact hv)) ⟨At.nil, At.nil, At.nil⟩) (fun A1 c1 E1 hl1 hO1 => ?_); rw [hs] at hl1 hO1 ⊢; dsimp only at hl1 hO1 ⊢) | refine Need.au ?_ | (refine Split.mk (fun hsplit => ?_) (fun hsplit => ?_) <;> (try simp only [List.cons.injEq, and_true, true_and, not_true_eq_false, not_false_eq_true] at hsplit) <;> try (exfalso; omega)) | refine Pick.au ?_ | refine store_au ?_ | refine Any.mk (fun _ => ?_) | refine Both.mk ?_ ?_)); all_goals (try (conv => whnf))
  exact Done.mk rfl
theorem conv_K {G : Cx} {hs E : Hp} {A : Option Addr} {xs : List B8} {n : Nat} (hO : OwnK A xs E) (hE : List.Sublist E hs) (hn : xs.length = n) : (nums xs).length = n ∧ (0 < n → ∃ ad, A = some ad ∧ G.cellsAre hs ad (bytesOf (nums xs))) := by
  cases hO with
  | none => subst hn; exact conv_nil
  | row b l r fr => exact conv_own (hE.subset (List.Mem.head _)) hn
theorem sealtags_law (f : Fr) (A : Option Addr) (key : List B8) (ck : Nat) (w : World) (hF : FAt w f) (hck : key.length ≤ ck) (hA : At w A (key.map b8)) : Val Tryz.prog 3 [f.v, .slice A key.length ck] w (.bool true) := by
  obtain ⟨hb, hh⟩ : ∃ b, holdsX f.s key = b := ⟨_, rfl⟩
  have H1 : ∀ w, At w A (key.map b8) → FAt w f → Val Tryz.prog 15 [f.v, .slice A key.length ck] w (.bool hb) := fun w a b => hh ▸ holds_v f A key ck hck w a b
  have H2 : ∀ w, At w A (key.map b8) → FAt w f → Val Tryz.prog 16 [f.v, .slice A key.length ck] w (.bool hb) := fun w a b => hh ▸ rholds_v f A key ck hck w a b
  clear hh
  refine val_vc tab_ok Tryz.func3 rfl rfl ?_
  cases hb
  all_goals
    repeat' ((try (conv => whnf)); (first | (refine CallVC.givesKt (fun w2 h2 => tag_r f A key ck hck w2 (hA.here h2 (fun _ _ => by simp)) ⟨hF.key.here h2 (fun _ _ => by simp), hF.body.here h2 (fun _ _ => by simp), hF.tag.here h2 (fun _ _ => by simp)⟩) (fun A1 c1 E1 hl1 hO1 => ?_)) | (refine CallVC.givesKt (fun w2 h2 => rtag_r f A key ck hck w2 (hA.here h2 (fun _ _ => by simp)) ⟨hF.key.here h2 (fun _ _ => by simp), hF.body.here h2 (fun _ _ => by simp), hF.tag.here h2 (fun _ _ => by simp)⟩) (fun A2 c2 E2 hl2 hO2 => ?_)) | (refine CallVC.givesXt (fun w2 h2 => seal_r f A key ck hck w2 (hA.here h2 (fun _ _ => by simp)) ⟨hF.key.here h2 (fun _ _ => by simp), hF.body.here h2 (fun _ _ => by simp), hF.tag.here h2 (fun _ _ => by simp)⟩) (fun A3 c3 E3 hl3 hO3 => ?_)) | (refine CallVC.givesXt (fun w2 h2 => rseal_r f A key ck hck w2 (hA.here h2 (fun _ _ => by simp)) ⟨hF.key.here h2 (fun _ _ => by simp), hF.body.here h2 (fun _ _ => by simp), hF.tag.here h2 (fun _ _ => by simp)⟩) (fun A4 c4 E4 hl4 hO4 => ?_)) | refine Pick.mk _ (conv_K hO1 (by repeat (first | exact List.Sublist.refl _ | exact List.sublist_append_right _ _ | refine List.Sublist.trans ?_ (List.sublist_append_left _ _) | refine List.Sublist.cons _ ?_)) rfl) ?_ | refine Pick.mk _ (conv_K hO2 (by repeat (first | exact List.Sublist.refl _ | exact List.sublist_append_right _ _ | refine List.Sublist.trans ?_ (List.sublist_append_left _ _) | refine List.Sublist.cons _ ?_)) rfl) ?_ | refine Pick.mk _ (conv_K (own_k hO3) (by repeat (first | exact List.Sublist.refl _ | exact List.sublist_append_right _ _ | refine List.Sublist.trans ?_ (List.sublist_append_left _ _) | refine List.Sublist.cons _ ?_)) rfl) ?_ | refine Pick.mk _ (conv_K (own_k hO4) (by repeat (first | exact List.Sublist.refl _ | exact List.sublist_append_right _ _ | refine List.Sublist.trans ?_ (List.sublist_append_left _ _) | refine List.Sublist.cons _ ?_)) rfl) ?_ | (refine QuietVC.val (fun w2 h2 => H1 w2 (hA.here h2 (fun _ _ => by simp)) ⟨hF.key.here h2 (fun _ _ => by simp), hF.body.here h2 (fun _ _ => by simp), hF.tag.here h2 (fun _ _ => by simp)⟩) ?_) | (refine QuietVC.val (fun w2 h2 => H2 w2 (hA.here h2 (fun _ _ => by simp)) ⟨hF.key.here h2 (fun _ _ => by simp), hF.body.here h2 (fun _ _ => by simp), hF.tag.here h2 (fun _ _ => by simp)⟩) ?_) | (refine QuietVC.val (fun w2 h2 => awake10_v w2) ?_) | (refine Split.mk (fun hsplit => ?_) (fun hsplit => absurd rfl hsplit)) | refine Pick.mk pl3_5 (by decide +kernel) ?_ | refine Need.au ?_ | (refine Split.mk (fun hsplit => ?_) (fun hsplit => ?_) <;> (try simp only [List.cons.injEq, and_true, true_and, not_true_eq_false, not_false_eq_true] at hsplit) <;> try (exfalso; omega)) | refine Pick.au ?_ | refine store_au ?_ | refine Any.mk (fun _ => ?_) | refine Both.mk ?_ ?_)); all_goals (try (conv => whnf))
    exact Done.mk rfl
end Go.Proofs.YtnlheljpagpiiaaGreat
