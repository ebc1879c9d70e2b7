/-
  The laws SealOpens and SealBytes return true; every input.
-/
import Derived.Test.YtnlheljpagpiiaaGreatIc
import Derived.Test.YtnlheljpagpiiaaGreatMq
set_option linter.unusedVariables false
set_option linter.unusedSimpArgs false
set_option maxRecDepth 100000
set_option maxHeartbeats 8000000
namespace Go.Proofs.YtnlheljpagpiiaaGreat
open Go
/-- What is opened is sealed again as it was. -/
theorem open_seal {l key : List B8} (h : (openX l key).2 = 0) : sealX (openX l key).1 key = (l, 0) := by
  unfold openX at h ⊢
  by_cases h0 : ¬ (getX l).2 = 0
  · rw [if_neg h0] at h; exact absurd h h0
  rw [Classical.not_not] at h0
  rw [if_pos h0] at h ⊢
  by_cases hh : ¬ holdsX (getX l).1 key = true
  · rw [if_neg hh] at h; exact absurd h (by decide)
  rw [Classical.not_not] at hh
  rw [if_pos hh]
  dsimp only
  unfold holdsX at hh
  obtain ⟨⟨h16, hok⟩, ht⟩ := of_decide_eq_true hh
  rw [seal_ok h16 hok, ht]
  have e : (getX l).1.withTag (getX l).1.tag = (getX l).1 := rfl
  rw [e]
  unfold getX at h0 ⊢
  split at h0
  · exact absurd h0 (by decide)
  rename_i h3
  rw [if_neg h3]
  split at h0
  · rename_i hg
    rw [if_pos hg]
    split at h0
    · rename_i hf
      rw [if_pos hf]
      dsimp only
      rw [put_get (by omega) hg hf]
    · exact absurd h0 (by decide)
  · exact absurd h0 (by decide)
theorem open_zero {l key : List B8} (h : (openX l key).2 ≠ 0) : (openX l key).1 = FrS.zero := by
  unfold openX at h ⊢
  split
  · rename_i h0
    split
    · rename_i h1
      rw [if_pos h0, if_pos h1] at h
      exact absurd rfl h
    · rfl
  · rfl
attribute [local irreducible] bitsOf shlOf shrOf pack numBits bytesBits coreBits crcSum tagOf macKey FrS.ok frameBytes sealX getX holdsX openX
theorem sealopens_law (A : Option Addr) (l : List B8) (cl : Nat) (B : Option Addr) (key : List B8) (ck : Nat) (hl : l.length ≤ 140737488351232) (hcl : l.length ≤ cl) (hck : key.length ≤ ck) (w : World) (hA : At w A (l.map b8)) (hB : At w B (key.map b8)) : Val Tryz.prog 4 [.slice A l.length cl, .slice B key.length ck] w (.bool true) := by
  obtain ⟨s, e, hr⟩ : ∃ s e, openX l key = (s, e) := ⟨_, _, rfl⟩
  refine val_vc tab_ok Tryz.func4 rfl rfl ?_
  repeat' ((try (conv => whnf)); (first | (refine CallVC.givesF (s := s) (e := e) (fun w2 h2 => hr ▸ sopen_r A l cl B key ck hl hcl hck w2 (hA.here h2 (fun _ _ => by simp)) (hB.here h2 (fun _ _ => by simp))) (fun f E hf hO => ?_)) | (refine store_frame f (by repeat (first | exact Upd.head _ | apply Upd.tail)) rfl ?_) | (refine CallVC.givesF (s := s) (e := e) (fun w2 h2 => hr ▸ rsopen_r A l cl B key ck hl hcl hck w2 (hA.here h2 (fun _ _ => by simp)) (hB.here h2 (fun _ _ => by simp))) (fun g E2 hg hO2 => ?_)) | (refine store_frame g (by repeat (first | exact Upd.head _ | apply Upd.tail)) rfl ?_) | (refine CallVC.val (fun w2 h2 => rfsame_yes f g (hf.trans hg.symm) w2 (fown_at hO (by repeat (first | exact List.Sublist.refl _ | exact List.nil_sublist _ | exact List.sublist_append_right _ _ | refine List.Sublist.trans ?_ (List.sublist_append_left _ _) | refine List.Sublist.cons _ ?_)) h2) (fown_at hO2 (by repeat (first | exact List.Sublist.refl _ | exact List.nil_sublist _ | exact List.sublist_append_right _ _ | refine List.Sublist.trans ?_ (List.sublist_append_left _ _) | refine List.Sublist.cons _ ?_)) h2)) ?_) | (refine CallVC.val (fun w2 h2 => awake10_v w2) ?_) | (refine Split.mk (fun hsplit => ?_) (fun hsplit => absurd rfl hsplit)) | refine Need.mk (by omega) ?_ | refine Need.mk (by decide +kernel) ?_ | refine Need.mk (by rfl) ?_ | refine Need.mk ⟨rfl, Nat.le_of_ble_eq_true rfl⟩ ?_ | (refine Split.mk (fun hsplit => ?_) (fun hsplit => ?_) <;> (try simp only [List.cons.injEq, and_true, true_and, not_true_eq_false, not_false_eq_true] at hsplit) <;> try (exfalso; omega)) | refine Pick.mk _ (fit_i64 (by omega) (by omega)) ?_ | refine Pick.mk _ (fit_u64 (by omega) (by omega)) ?_ | refine Pick.mk _ (fit_u32 (by omega) (by omega)) ?_ | refine Pick.mk _ (fit_u8 (by omega) (by omega)) ?_ | refine Pick.mk _ (quo_i64 (by omega) (by omega) (by omega)) ?_ | refine Pick.mk _ (rem_pos (by omega)) ?_ | refine Pick.mk _ (cellIs_at (by repeat (first | exact List.Mem.head _ | refine List.Mem.tail _ ?_)) rfl) ?_ | refine Pick.mk _ (cellIs_old (by assumption) (by simp)) ?_ | refine Pick.mk _ (pick_whole (by repeat (first | exact List.Mem.head _ | refine List.Mem.tail _ ?_)) (by rfl)) ?_ | refine Pick.mk _ (pick_part (by repeat (first | exact List.Mem.head _ | refine List.Mem.tail _ ?_)) (by rfl)) ?_ | refine store_at (by repeat (first | exact Upd.head _ | apply Upd.tail)) soft0 (by rfl) (by rfl) ?_ | refine Any.mk (fun _ => ?_) | refine Need.mk (List.Sublist.cons _ (List.Sublist.refl _)) ?_ | refine Need.mk (List.Sublist.refl _) ?_ | refine Both.mk ?_ ?_)); all_goals (try (conv => whnf))
  exact Done.mk rfl
theorem sealbytes_law (A : Option Addr) (l : List B8) (cl : Nat) (B : Option Addr) (key : List B8) (ck : Nat) (hl : l.length ≤ 140737488351232) (hcl : l.length ≤ cl) (hck : key.length ≤ ck) (w : World) (hA : At w A (l.map b8)) (hB : At w B (key.map b8)) : Val Tryz.prog 6 [.slice A l.length cl, .slice B key.length ck] w (.bool true) := by
  obtain ⟨s, e, hr⟩ : ∃ s e, openX l key = (s, e) := ⟨_, _, rfl⟩
  have h1 := @open_seal l key
  have h2' := @open_zero l key
  rw [hr] at h1 h2'
  dsimp only at h1 h2'
  by_cases he : e = 0
  · have hs := h1 he
    subst he
    refine val_vc tab_ok Tryz.func6 rfl rfl ?_
    repeat' ((try (conv => whnf)); (first | (refine CallVC.givesF (s := s) (e := 0) (fun w2 h2 => hr ▸ sopen_r A l cl B key ck hl hcl hck w2 (hA.here h2 (fun _ _ => by simp)) (hB.here h2 (fun _ _ => by simp))) (fun f E hf hO => ?_)) | (refine store_frame f (by repeat (first | exact Upd.head _ | apply Upd.tail)) rfl ?_) | (refine CallVC.givesXt (xs := l) (e := 0) (fun w2 h2 => by have := seal_r f B key ck hck w2 (hB.here h2 (fun _ _ => by simp)) (fown_at hO (by repeat (first | exact List.Sublist.refl _ | exact List.nil_sublist _ | exact List.sublist_append_right _ _ | refine List.Sublist.trans ?_ (List.sublist_append_left _ _) | refine List.Sublist.cons _ ?_)) h2); rwa [hf, hs] at this) (fun A2 c2 E2 hl2 hO2 => ?_)) | refine Pick.mk _ (conv_K (own_k hO2) (by repeat (first | exact List.Sublist.refl _ | exact List.nil_sublist _ | exact List.sublist_append_right _ _ | refine List.Sublist.trans ?_ (List.sublist_append_left _ _) | refine List.Sublist.cons _ ?_)) rfl) ?_ | refine Pick.mk _ (conv_arg hA (by simp) rfl) ?_ | (refine CallVC.val (fun w2 h2 => awake10_v w2) ?_) | (refine Split.mk (fun hsplit => ?_) (fun hsplit => absurd rfl hsplit)) | refine Need.mk (by omega) ?_ | refine Need.mk (by decide +kernel) ?_ | refine Need.mk (by rfl) ?_ | refine Need.mk ⟨rfl, Nat.le_of_ble_eq_true rfl⟩ ?_ | (refine Split.mk (fun hsplit => ?_) (fun hsplit => ?_) <;> (try simp only [List.cons.injEq, and_true, true_and, not_true_eq_false, not_false_eq_true] at hsplit) <;> try (exfalso; omega)) | refine Pick.mk _ (fit_i64 (by omega) (by omega)) ?_ | refine Pick.mk _ (fit_u64 (by omega) (by omega)) ?_ | refine Pick.mk _ (fit_u32 (by omega) (by omega)) ?_ | refine Pick.mk _ (fit_u8 (by omega) (by omega)) ?_ | refine Pick.mk _ (quo_i64 (by omega) (by omega) (by omega)) ?_ | refine Pick.mk _ (rem_pos (by omega)) ?_ | refine Pick.mk _ (cellIs_at (by repeat (first | exact List.Mem.head _ | refine List.Mem.tail _ ?_)) rfl) ?_ | refine Pick.mk _ (cellIs_old (by assumption) (by simp)) ?_ | refine Pick.mk _ (pick_whole (by repeat (first | exact List.Mem.head _ | refine List.Mem.tail _ ?_)) (by rfl)) ?_ | refine Pick.mk _ (pick_part (by repeat (first | exact List.Mem.head _ | refine List.Mem.tail _ ?_)) (by rfl)) ?_ | refine store_at (by repeat (first | exact Upd.head _ | apply Upd.tail)) soft0 (by rfl) (by rfl) ?_ | refine Any.mk (fun _ => ?_) | refine Need.mk (List.Sublist.cons _ (List.Sublist.refl _)) ?_ | refine Need.mk (List.Sublist.refl _) ?_ | refine Both.mk ?_ ?_)); all_goals (try (conv => whnf))
    exact Done.mk rfl
  · have hs := h2' he
    refine val_vc tab_ok Tryz.func6 rfl rfl ?_
    repeat' ((try (conv => whnf)); (first | (refine CallVC.givesF (s := s) (e := e) (fun w2 h2 => hr ▸ sopen_r A l cl B key ck hl hcl hck w2 (hA.here h2 (fun _ _ => by simp)) (hB.here h2 (fun _ _ => by simp))) (fun f E hf hO => ?_)) | (refine store_frame f (by repeat (first | exact Upd.head _ | apply Upd.tail)) rfl ?_) | (refine CallVC.val (fun w2 h2 => fsame_yes f Fr.zero (by rw [hf, hs]; rfl) w2 (fown_at hO (by repeat (first | exact List.Sublist.refl _ | exact List.nil_sublist _ | exact List.sublist_append_right _ _ | refine List.Sublist.trans ?_ (List.sublist_append_left _ _) | refine List.Sublist.cons _ ?_)) h2) ⟨At.nil, At.nil, At.nil⟩) ?_) | (refine CallVC.val (fun w2 h2 => awake10_v w2) ?_) | (refine Split.mk (fun hsplit => ?_) (fun hsplit => absurd rfl hsplit)) | refine Need.mk (by omega) ?_ | refine Need.mk (by decide +kernel) ?_ | refine Need.mk (by rfl) ?_ | refine Need.mk ⟨rfl, Nat.le_of_ble_eq_true rfl⟩ ?_ | (refine Split.mk (fun hsplit => ?_) (fun hsplit => ?_) <;> (try simp only [List.cons.injEq, and_true, true_and, not_true_eq_false, not_false_eq_true] at hsplit) <;> try (exfalso; omega)) | refine Pick.mk _ (fit_i64 (by omega) (by omega)) ?_ | refine Pick.mk _ (fit_u64 (by omega) (by omega)) ?_ | refine Pick.mk _ (fit_u32 (by omega) (by omega)) ?_ | refine Pick.mk _ (fit_u8 (by omega) (by omega)) ?_ | refine Pick.mk _ (quo_i64 (by omega) (by omega) (by omega)) ?_ | refine Pick.mk _ (rem_pos (by omega)) ?_ | refine Pick.mk _ (cellIs_at (by repeat (first | exact List.Mem.head _ | refine List.Mem.tail _ ?_)) rfl) ?_ | refine Pick.mk _ (cellIs_old (by assumption) (by simp)) ?_ | refine Pick.mk _ (pick_whole (by repeat (first | exact List.Mem.head _ | refine List.Mem.tail _ ?_)) (by rfl)) ?_ | refine Pick.mk _ (pick_part (by repeat (first | exact List.Mem.head _ | refine List.Mem.tail _ ?_)) (by rfl)) ?_ | refine store_at (by repeat (first | exact Upd.head _ | apply Upd.tail)) soft0 (by rfl) (by rfl) ?_ | refine Any.mk (fun _ => ?_) | refine Need.mk (List.Sublist.cons _ (List.Sublist.refl _)) ?_ | refine Need.mk (List.Sublist.refl _) ?_ | refine Both.mk ?_ ?_)); all_goals (try (conv => whnf))
    all_goals exact Done.mk rfl
end Go.Proofs.YtnlheljpagpiiaaGreat
