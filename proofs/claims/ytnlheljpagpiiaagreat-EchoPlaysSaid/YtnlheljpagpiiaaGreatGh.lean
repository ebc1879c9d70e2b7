/-
  The frame of bytes: what it is; program and document; every input.
-/
import Derived.Test.YtnlheljpagpiiaaGreatGg
set_option linter.unusedVariables false
set_option linter.unusedSimpArgs false
set_option maxRecDepth 100000
set_option maxHeartbeats 8000000
namespace Go.Proofs.YtnlheljpagpiiaaGreat
open Go
theorem readF_le (bs : List Bool) : (readF bs).2.at_ ≤ bs.length := by
  have h0 : rd0.at_ ≤ bs.length := Nat.zero_le _
  have hl : ∀ s : Rd, s.at_ ≤ bs.length → (rdLost s).at_ ≤ bs.length := fun s h => h
  unfold readF
  split
  · unfold dataF rd2
    dsimp only
    repeat (first | exact h0 | refine Rd.skip_le ?_ _)
  split
  · unfold pingF rd2
    dsimp only
    repeat (first | exact h0 | refine Rd.skip_le ?_ _)
  split
  · unfold pongF rd2
    dsimp only
    repeat (first | exact h0 | refine Rd.skip_le ?_ _)
  · unfold badF rd2
    dsimp only
    refine Rd.skip_le (hl _ ?_) _
    repeat (first | exact h0 | refine Rd.skip_le ?_ _)
def FrS.zero : FrS := ⟨0, 0, 0, 0, 0, 0, 0#64, 0, 0, 0, [], [], []⟩
abbrev Fr.zero : Fr := ⟨0, 0, 0, 0, 0, 0, 0#64, 0, 0, 0, slNil, slNil, slNil⟩
/-- The frame of bytes, and the error. -/
def restB (l : List B8) : List Bool := bytesBits (l.take (l.length - 3))
def fineB (l : List B8) : Prop := (readF (restB l)).2.lost = false ∧ endOk (restB l) (readF (restB l)).2.at_ = true ∧ (readF (restB l)).1.ok
instance (l : List B8) : Decidable (fineB l) := by unfold fineB; infer_instance
def getX (l : List B8) : FrS × Int := if l.length < 3 then (FrS.zero, 3) else if goodB l = true then (if fineB l then ((readF (restB l)).1, 0) else (FrS.zero, 4)) else (FrS.zero, 8)
/-- A frame that is handed back, with rows of the call's own, and an error. -/
def GivesF (r : FrS × Int) (v : Value) (hs : Hp) : Prop := ∃ f E, v = .tuple #[f.v, .int .i64 r.2] ∧ f.s = r.1 ∧ FOwn f E ∧ List.Sublist E hs
theorem GivesF.no {e : Int} {v : Value} {hs : Hp} (h : v = .tuple #[Fr.zero.v, .int .i64 e]) : GivesF (FrS.zero, e) v hs := ⟨Fr.zero, [], h, rfl, ⟨[], [], [], Own.none, Own.none, Own.none, rfl⟩, List.nil_sublist _⟩
attribute [local irreducible] bitsOf shlOf shrOf pack numBits numOf bytesBits rowAt readF goodB endOk FrS.ok
section
variable {G : Cx} {hs : Hp}
theorem CallVC.frameW {K : Value → Hp → Prop} {rp fp rb C : Nat} {fr0 : Nat × Nat} {r1 r2 : Hp} (l : List B8) (hP : G.P = Tryz.prog) (hl : l.length ≤ 140737488351232) (h1 : Take (rE rp (some ⟨rb, 0, none⟩) l.length C 0) hs r1) (h2 : Take (frE fp rp false) r1 r2) (hm : (⟨rb, l.map b8, 5, fr0⟩ : Ent) ∈ r2)
    (hk : ∀ f E, f.s = (readF (bytesBits l)).1 → FOwn f E → K f.v (rE rp (some ⟨rb, 0, none⟩) l.length C (readF (bytesBits l)).2.at_ :: frE fp rp (readF (bytesBits l)).2.lost :: (r2 ++ E))) : CallVC G hs 98 [.pointer (some ⟨fp, 0, none⟩)] K := by
  have hpm : hs.Perm ([rE rp (some ⟨rb, 0, none⟩) l.length C rd0.at_, frE fp rp rd0.lost] ++ r2) := h1.perm.trans (List.Perm.cons _ h2.perm)
  refine CallVC.mutP [rE rp (some ⟨rb, 0, none⟩) l.length C rd0.at_, frE fp rp rd0.lost] r2 hpm (fun w2 h2 h3 => hP ▸ frame_m fp rp _ l C hl w2 (at_in (hpm.mem_iff.2 (List.mem_append_right _ hm)) h2) (fun hx a ha => by cases ha; exact apart_rest h2 hpm hm) (hP ▸ h3)) ?_
  rintro v H ⟨f, E, rfl, hs', hO, rfl⟩
  exact ⟨_, List.Perm.cons _ (List.Perm.cons _ List.perm_append_comm), hk f E hs' hO⟩
theorem CallVC.rreadW {K : Value → Hp → Prop} {rp fp C : Nat} {A : Option Addr} {r1 r2 : Hp} (l : List B8) (hP : G.P = Tryz.prog) (hl : l.length ≤ 140737488351232) (h1 : Take (qE rp A l.length C 0) hs r1) (h2 : Take (grE fp rp false) r1 r2) (hA : At G.w0 A (l.map b8)) (hfp : G.fp = [])
    (hk : ∀ f E, f.s = (readF (bytesBits l)).1 → FOwn f E → K f.v (qE rp A l.length C (readF (bytesBits l)).2.at_ :: grE fp rp (readF (bytesBits l)).2.lost :: (r2 ++ E))) : CallVC G hs 84 [.pointer (some ⟨fp, 0, none⟩)] K := by
  have hpm : hs.Perm ([qE rp A l.length C rd0.at_, grE fp rp rd0.lost] ++ r2) := h1.perm.trans (List.Perm.cons _ h2.perm)
  refine CallVC.mutP [qE rp A l.length C rd0.at_, grE fp rp rd0.lost] r2 hpm (fun w2 h2 h3 => hP ▸ rread_m fp rp A l C hl w2 (hA.here h2 (by simp [hfp])) (fun hx a ha => (ha ▸ hA : At G.w0 (some a) _).news (by simpa using hx) (by simp [hfp]) h2 hpm) (hP ▸ h3)) ?_
  rintro v H ⟨f, E, rfl, hs', hO, rfl⟩
  exact ⟨_, List.Perm.cons _ (List.Perm.cons _ List.perm_append_comm), hk f E hs' hO⟩
theorem CallVC.newR {K : Value → Hp → Prop} {A : Option Addr} {c : Nat} (l : List B8) (hP : G.P = Tryz.prog) (hl : l.length ≤ 140737488351232) (hA : At G.w0 A (l.map b8)) (hfp : G.fp = [])
    (hk : ∀ rp rb, K (.pointer (some ⟨rp, 0, none⟩)) (rE rp (some ⟨rb, 0, none⟩) l.length l.length 0 :: ⟨rb, l.map b8, 5, (0, 0)⟩ :: hs)) : CallVC G hs 97 [.slice A l.length c] K := by
  refine CallVC.ofW (fun w hw => hP ▸ newreader_r A l c hl w (hA.here hw (by simp [hfp]))) ?_
  rintro v hs2 ⟨rp, rb, rfl, hsub⟩
  exact ⟨_, hsub, hk rp rb⟩
end
theorem fget_r (A : Option Addr) (l : List B8) (ck : Nat) (hlk : l.length ≤ 140737488351232) (hck : l.length ≤ ck) (w : World) (hA : At w A (l.map b8)) : Ret Tryz.prog 61 [.slice A l.length ck] w (GivesF (getX l)) := by
  unfold getX
  by_cases h3 : l.length < 3
  · rw [if_pos h3]
    refine ret_vc tab_ok Tryz.func61 rfl rfl ?_
    repeat' ((try (conv => whnf)); (first | refine Need.au ?_ | (refine Split.mk (fun hsplit => ?_) (fun hsplit => ?_) <;> (try simp only [List.cons.injEq, and_true, true_and, not_true_eq_false, not_false_eq_true] at hsplit) <;> try (exfalso; omega)) | refine Pick.au ?_ | refine store_au ?_ | refine Any.mk (fun _ => ?_) | refine Both.mk ?_ ?_)); all_goals (try (conv => whnf))
    exact Done.mk (GivesF.no rfl)
  rw [if_neg h3]
  by_cases hg : ¬ goodB l = true
  · rw [if_neg hg]
    rw [Bool.not_eq_true] at hg
    refine ret_vc tab_ok Tryz.func61 rfl rfl ?_
    repeat' ((try (conv => whnf)); (first | (refine CallVC.val (v := .bool false) (fun w2 h2 => hg ▸ cgood_v A l ck (by omega) hck w2 (hA.here h2 (fun _ _ => by simp))) ?_) | refine Need.au ?_ | (refine Split.mk (fun hsplit => ?_) (fun hsplit => ?_) <;> (try simp only [List.cons.injEq, and_true, true_and, not_true_eq_false, not_false_eq_true] at hsplit) <;> try (exfalso; omega)) | refine Pick.au ?_ | refine store_au ?_ | refine Any.mk (fun _ => ?_) | refine Both.mk ?_ ?_)); all_goals (try (conv => whnf))
    exact Done.mk (GivesF.no rfl)
  rw [Classical.not_not] at hg
  rw [if_pos hg]
  have hlt : (l.take (l.length - 3)).length = l.length - 3 := by rw [List.length_take]; omega
  have hT : (((l.length : Nat) : Int) - 3).toNat = (l.take (l.length - 3)).length := by rw [hlt]; omega
  have hle := readF_le (restB l)
  have hbl : (restB l).length = 8 * (l.take (l.length - 3)).length := by unfold restB; rw [bytesBits_len]
  have hA3 := hA.takeB (l.length - 3)
  obtain ⟨s, p, lost, hr⟩ : ∃ s p lost, readF (restB l) = (s, ⟨p, lost⟩) := ⟨_, _, _, rfl⟩
  have hr2 : readF (bytesBits (l.take (l.length - 3))) = (s, ⟨p, lost⟩) := hr
  have hfine : fineB l ↔ (lost = false ∧ endOk (bytesBits (l.take (l.length - 3))) p = true ∧ s.ok) := by unfold fineB; rw [hr]; exact Iff.rfl
  rw [hr] at hle ⊢
  dsimp only at hle ⊢
  refine ret_vc tab_ok Tryz.func61 rfl rfl ?_
  repeat' ((try (conv => whnf)); (first | (refine CallVC.val (v := .bool true) (fun w2 h2 => hg ▸ cgood_v A l ck (by omega) hck w2 (hA.here h2 (fun _ _ => by simp))) ?_) | (rw [slice_cut0, hT]; refine CallVC.newR (l.take (l.length - 3)) rfl (by omega) hA3 rfl (fun rp rb => ?_)) | (refine CallVC.frameW (l.take (l.length - 3)) rfl (by omega) (by repeat (first | exact Take.head _ | apply Take.tail)) (by repeat (first | exact Take.head _ | apply Take.tail)) (by repeat (first | exact List.Mem.head _ | refine List.Mem.tail _ ?_)) (fun f E hf hO => ?_); rw [hr2] at hf ⊢; dsimp only at hf ⊢; cases lost) | (refine store_frame f (by repeat (first | exact Upd.head _ | apply Upd.tail)) rfl ?_) | (refine CallVC.ite (fun w2 h2 => rdend_v _ _ (l.take (l.length - 3)) _ p (by omega) (by omega) w2 (at_in (by repeat (first | exact List.Mem.head _ | refine List.Mem.tail _ ?_)) h2) (at_in (by repeat (first | exact List.Mem.head _ | refine List.Mem.tail _ ?_)) h2)) (fun hend => ?_) (fun hend => ?_)) | (refine CallVC.ite (fun w2 h2 => fcheck_v f w2) (fun hok => ?_) (fun hok => ?_)) | refine Need.au ?_ | (refine Split.mk (fun hsplit => ?_) (fun hsplit => ?_) <;> (try simp only [List.cons.injEq, and_true, true_and, not_true_eq_false, not_false_eq_true] at hsplit) <;> try (exfalso; omega)) | refine Pick.au ?_ | refine store_au ?_ | refine Any.mk (fun _ => ?_) | refine Both.mk ?_ ?_)); all_goals (try (conv => whnf))
  all_goals first
    | (rw [if_pos (hfine.2 ⟨rfl, hend, hf ▸ (ok_s f).2 hok⟩)]; exact Done.mk ⟨f, E, rfl, hf, hO, (by repeat (first | exact List.Sublist.refl _ | exact List.nil_sublist _ | exact List.sublist_append_right _ _ | refine List.Sublist.cons _ ?_))⟩)
    | (rw [if_neg (fun h => Bool.noConfusion (hfine.1 h).1)]; exact Done.mk (GivesF.no rfl))
    | (rw [if_neg (fun h => hend (hfine.1 h).2.1)]; exact Done.mk (GivesF.no rfl))
    | (rw [if_neg (fun h => hok ((ok_s f).1 (hf ▸ (hfine.1 h).2.2)))]; exact Done.mk (GivesF.no rfl))
theorem rfget_r (A : Option Addr) (l : List B8) (ck : Nat) (hlk : l.length ≤ 140737488351232) (hck : l.length ≤ ck) (w : World) (hA : At w A (l.map b8)) : Ret Tryz.prog 51 [.slice A l.length ck] w (GivesF (getX l)) := by
  unfold getX
  by_cases h3 : l.length < 3
  · rw [if_pos h3]
    refine ret_vc tab_ok Tryz.func51 rfl rfl ?_
    repeat' ((try (conv => whnf)); (first | refine Need.au ?_ | (refine Split.mk (fun hsplit => ?_) (fun hsplit => ?_) <;> (try simp only [List.cons.injEq, and_true, true_and, not_true_eq_false, not_false_eq_true] at hsplit) <;> try (exfalso; omega)) | refine Pick.au ?_ | refine store_au ?_ | refine Any.mk (fun _ => ?_) | refine Both.mk ?_ ?_)); all_goals (try (conv => whnf))
    exact Done.mk (GivesF.no rfl)
  rw [if_neg h3]
  by_cases hg : ¬ goodB l = true
  · rw [if_neg hg]
    rw [Bool.not_eq_true] at hg
    refine ret_vc tab_ok Tryz.func51 rfl rfl ?_
    repeat' ((try (conv => whnf)); (first | (refine CallVC.val (v := .bool false) (fun w2 h2 => hg ▸ rgood_v A l ck (by omega) hck w2 (hA.here h2 (fun _ _ => by simp))) ?_) | refine Need.au ?_ | (refine Split.mk (fun hsplit => ?_) (fun hsplit => ?_) <;> (try simp only [List.cons.injEq, and_true, true_and, not_true_eq_false, not_false_eq_true] at hsplit) <;> try (exfalso; omega)) | refine Pick.au ?_ | refine store_au ?_ | refine Any.mk (fun _ => ?_) | refine Both.mk ?_ ?_)); all_goals (try (conv => whnf))
    exact Done.mk (GivesF.no rfl)
  rw [Classical.not_not] at hg
  rw [if_pos hg]
  have hlt : (l.take (l.length - 3)).length = l.length - 3 := by rw [List.length_take]; omega
  have hT : (((l.length : Nat) : Int) - 3).toNat = (l.take (l.length - 3)).length := by rw [hlt]; omega
  have hle := readF_le (restB l)
  have hbl : (restB l).length = 8 * (l.take (l.length - 3)).length := by unfold restB; rw [bytesBits_len]
  have hA3 := hA.takeB (l.length - 3)
  obtain ⟨s, p, lost, hr⟩ : ∃ s p lost, readF (restB l) = (s, ⟨p, lost⟩) := ⟨_, _, _, rfl⟩
  have hr2 : readF (bytesBits (l.take (l.length - 3))) = (s, ⟨p, lost⟩) := hr
  have hfine : fineB l ↔ (lost = false ∧ endOk (bytesBits (l.take (l.length - 3))) p = true ∧ s.ok) := by unfold fineB; rw [hr]; exact Iff.rfl
  rw [hr] at hle ⊢
  dsimp only at hle ⊢
  refine ret_vc tab_ok Tryz.func51 rfl rfl ?_
  repeat' ((try (conv => whnf)); (first | (refine CallVC.val (v := .bool true) (fun w2 h2 => hg ▸ rgood_v A l ck (by omega) hck w2 (hA.here h2 (fun _ _ => by simp))) ?_) | (rw [slice_cut0, hT]; refine Any.mk (fun rp => ?_)) | (refine CallVC.rreadW (l.take (l.length - 3)) rfl (by omega) (by repeat (first | exact Take.head _ | apply Take.tail)) (by repeat (first | exact Take.head _ | apply Take.tail)) hA3 rfl (fun f E hf hO => ?_); rw [hr2] at hf ⊢; dsimp only at hf ⊢; cases lost) | (refine store_frame f (by repeat (first | exact Upd.head _ | apply Upd.tail)) rfl ?_) | (refine CallVC.ite (fun w2 h2 => rrdend_v _ _ (l.take (l.length - 3)) _ p (by omega) (by omega) w2 (at_in (by repeat (first | exact List.Mem.head _ | refine List.Mem.tail _ ?_)) h2) (hA3.here h2 (fun _ _ => by simp))) (fun hend => ?_) (fun hend => ?_)) | (refine CallVC.ite (fun w2 h2 => rcheck_v f w2) (fun hok => ?_) (fun hok => ?_)) | refine Need.au ?_ | (refine Split.mk (fun hsplit => ?_) (fun hsplit => ?_) <;> (try simp only [List.cons.injEq, and_true, true_and, not_true_eq_false, not_false_eq_true] at hsplit) <;> try (exfalso; omega)) | refine Pick.au ?_ | refine store_au ?_ | refine Any.mk (fun _ => ?_) | refine Both.mk ?_ ?_)); all_goals (try (conv => whnf))
  all_goals first
    | (rw [if_pos (hfine.2 ⟨rfl, hend, hf ▸ (ok_s f).2 hok⟩)]; exact Done.mk ⟨f, E, rfl, hf, hO, (by repeat (first | exact List.Sublist.refl _ | exact List.nil_sublist _ | exact List.sublist_append_right _ _ | refine List.Sublist.cons _ ?_))⟩)
    | (rw [if_neg (fun h => Bool.noConfusion (hfine.1 h).1)]; exact Done.mk (GivesF.no rfl))
    | (rw [if_neg (fun h => hend (hfine.1 h).2.1)]; exact Done.mk (GivesF.no rfl))
    | (rw [if_neg (fun h => hok ((ok_s f).1 (hf ▸ (hfine.1 h).2.2)))]; exact Done.mk (GivesF.no rfl))
end Go.Proofs.YtnlheljpagpiiaaGreat
