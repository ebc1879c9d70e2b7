/-
  Frames: what a tag is made of; a frame's bytes; the document; every input.
-/
import Derived.Test.YtnlheljpagpiiaaGreatFg
set_option linter.unusedVariables false
set_option linter.unusedSimpArgs false
set_option maxRecDepth 100000
set_option maxHeartbeats 8000000
namespace Go.Proofs.YtnlheljpagpiiaaGreat
open Go
attribute [local irreducible] bitsOf shlOf shrOf pack numBits bytesBits coreBits crcSum
theorem rcheck_yes (f : Fr) (h : f.ok) (w : World) : Val Tryz.prog 72 [f.v] w (.int .i64 0) := by
  have := rcheck_v f w
  rwa [if_pos h] at this
theorem rcheck_no (f : Fr) (h : ¬ f.ok) (w : World) : Val Tryz.prog 72 [f.v] w (.int .i64 1) := by
  have := rcheck_v f w
  rwa [if_neg h] at this
theorem ok_untagged {f : Fr} (h : f.s.ok) : f.s.untagged.ok := by
  have h' : f.ok := h
  exact ⟨⟨h'.1.1, rfl, h'.1.2.2⟩, h'.2⟩
section
variable {G : Cx} {hs : Hp}
theorem CallVC.rcoreW {K : Value → Hp → Prop} (f : Fr) (hP : G.P = Tryz.prog) (hok : f.s.untagged.ok) (hK : At G.w0 f.key.a (f.key.l.map b8)) (hB : At G.w0 f.body.a (f.body.l.map b8)) (hfp : G.fp = [])
    (hk : ∀ dp b r fr, Soft fr (boolsV (coreBits f.s) ++ r).length → K (.pointer (some ⟨dp, 0, none⟩)) (eDB b (coreBits f.s) r fr :: eD dp b (coreBits f.s) r :: hs)) : CallVC G hs 77 [f.v] K := by
  refine CallVC.ofW (fun w hw => hP ▸ rcore_r f hok w (hK.here hw (by simp [hfp])) (hB.here hw (by simp [hfp]))) ?_
  rintro v hs2 ⟨dp, b, r, fr, rfl, hf, hsub⟩
  exact ⟨_, hsub, hk dp b r fr hf⟩
end
theorem rfcore_r (f : Fr) (w : World) (hK : At w f.key.a (f.key.l.map b8)) (hB : At w f.body.a (f.body.l.map b8)) : Ret Tryz.prog 45 [f.v] w (GivesX (coreX f.s).1 (coreX f.s).2) := by
  unfold coreX
  by_cases hok : f.s.untagged.ok
  · rw [if_pos hok]
    have hlen := coreBits_len hok
    rw [coreBits_untagged] at hlen
    refine ret_vc tab_ok Tryz.func45 rfl rfl ?_
    repeat' ((try (conv => whnf)); (first | (refine CallVC.val (fun w2 h2 => rcheck_yes (f.tagged _ (List.replicate 8 0#8) _) (by exact hok) w2) ?_) | (refine CallVC.rcoreW f rfl hok hK hB rfl (fun dp b r fr hf => ?_)) | (refine CallVC.givesB (xs := pack (coreBits f.s)) (fun w2 h2 => ddone_r _ _ (coreBits f.s) _ (by omega) w2 (at_in (by repeat (first | exact List.Mem.head _ | refine List.Mem.tail _ ?_)) h2) (at_pre (by repeat (first | exact List.Mem.head _ | refine List.Mem.tail _ ?_)) h2)) (fun b3 r3 fr3 hf3 => ?_)) | refine Need.au ?_ | (refine Split.mk (fun hsplit => ?_) (fun hsplit => ?_) <;> (try simp only [List.cons.injEq, and_true, true_and, not_true_eq_false, not_false_eq_true] at hsplit) <;> try (exfalso; omega)) | refine Pick.au ?_ | refine store_au ?_ | refine Any.mk (fun _ => ?_) | refine Both.mk ?_ ?_)); all_goals (try (conv => whnf))
    exact Done.mk (givesE_toX ⟨_, rfl, Gives.mk (List.Mem.head _) (by rw [List.length_map]) rfl hf3⟩)
  · rw [if_neg hok]
    refine ret_vc tab_ok Tryz.func45 rfl rfl ?_
    repeat' ((try (conv => whnf)); (first | (refine CallVC.val (fun w2 h2 => rcheck_no (f.tagged _ (List.replicate 8 0#8) _) (by exact hok) w2) ?_) | refine Need.au ?_ | (refine Split.mk (fun hsplit => ?_) (fun hsplit => ?_) <;> (try simp only [List.cons.injEq, and_true, true_and, not_true_eq_false, not_false_eq_true] at hsplit) <;> try (exfalso; omega)) | refine Pick.au ?_ | refine store_au ?_ | refine Any.mk (fun _ => ?_) | refine Both.mk ?_ ?_)); all_goals (try (conv => whnf))
    exact Done.mk GivesX.no
theorem rfput_r (f : Fr) (w : World) (hK : At w f.key.a (f.key.l.map b8)) (hB : At w f.body.a (f.body.l.map b8)) (hT : At w f.tag.a (f.tag.l.map b8)) : Ret Tryz.prog 47 [f.v] w (GivesX (putX f.s).1 (putX f.s).2) := by
  unfold putX
  by_cases hok : f.s.ok
  · rw [if_pos hok]
    have hlen := coreBits_len hok
    have ht8 : f.tag.l.length = 8 := by have h : f.ok := hok; exact h.1.2.1
    have hbl : (coreBits f.s ++ bytesBits f.tag.l).length ≤ 464 := by rw [List.length_append, bytesBits_len]; omega
    refine ret_vc tab_ok Tryz.func47 rfl rfl ?_
    repeat' ((try (conv => whnf)); (first | (refine CallVC.val (fun w2 h2 => rcheck_yes f hok w2) ?_) | (refine CallVC.rcoreW f rfl (ok_untagged hok) hK hB rfl (fun dp b r fr hf => ?_)) | (refine CallVC.dbytesW (coreBits f.s) f.tag.l rfl (by repeat (first | exact Take.head _ | apply Take.tail)) (by repeat (first | exact Take.head _ | apply Take.tail)) (by assumption) (by omega) (coreBits_ne _) (by omega) hT (fun _ _ _ => by simp) (fun b2 r2 fr2 hf2 => ?_)) | (refine CallVC.givesB (xs := pack (coreBits f.s ++ bytesBits f.tag.l)) (fun w2 h2 => ddone_r _ _ (coreBits f.s ++ bytesBits f.tag.l) _ (by omega) w2 (at_in (by repeat (first | exact List.Mem.head _ | refine List.Mem.tail _ ?_)) h2) (at_pre (by repeat (first | exact List.Mem.head _ | refine List.Mem.tail _ ?_)) h2)) (fun b3 r3 fr3 hf3 => ?_)) | (refine CallVC.givesB (xs := frameBytes f.s) (fun w2 h2 => rfix_r _ (pack (coreBits f.s ++ bytesBits f.tag.l)) _ (by rw [pack_len]; omega) w2 (at_pre (by repeat (first | exact List.Mem.head _ | refine List.Mem.tail _ ?_)) h2)) (fun b4 r4 fr4 hf4 => ?_)) | refine Need.au ?_ | (refine Split.mk (fun hsplit => ?_) (fun hsplit => ?_) <;> (try simp only [List.cons.injEq, and_true, true_and, not_true_eq_false, not_false_eq_true] at hsplit) <;> try (exfalso; omega)) | refine Pick.au ?_ | refine store_au ?_ | refine Any.mk (fun _ => ?_) | refine Both.mk ?_ ?_)); all_goals (try (conv => whnf))
    exact Done.mk (givesE_toX ⟨_, rfl, Gives.mk (List.Mem.head _) (by rw [List.length_map]) rfl hf4⟩)
  · rw [if_neg hok]
    refine ret_vc tab_ok Tryz.func47 rfl rfl ?_
    repeat' ((try (conv => whnf)); (first | (refine CallVC.val (fun w2 h2 => rcheck_no f hok w2) ?_) | refine Need.au ?_ | (refine Split.mk (fun hsplit => ?_) (fun hsplit => ?_) <;> (try simp only [List.cons.injEq, and_true, true_and, not_true_eq_false, not_false_eq_true] at hsplit) <;> try (exfalso; omega)) | refine Pick.au ?_ | refine store_au ?_ | refine Any.mk (fun _ => ?_) | refine Both.mk ?_ ?_)); all_goals (try (conv => whnf))
    exact Done.mk GivesX.no
end Go.Proofs.YtnlheljpagpiiaaGreat
