/-
  A digest's sum, in the program; every input.
-/
import Derived.Test.YtnlheljpagpiiaaGreatSf
set_option linter.unusedVariables false
set_option linter.unusedSimpArgs false
set_option maxRecDepth 100000
set_option maxHeartbeats 4000000
namespace Go.Proofs.YtnlheljpagpiiaaGreat
open Go
attribute [local irreducible] bitsOf shlOf shrOf

theorem mix_a (s : S8) (ka : Addr) (A : Option Addr) (l : List B8) (hl : l.length = 64) (w : World) (hk : At w (some ka) (table.map w32)) (h : At w A (l.map b8)) :
    Val Tryz.prog 164 [.agg (s.list.map w32).toArray, .pointer (some ka), .pointer A] w (.agg ((s.mix l).list.map w32).toArray) := by
  obtain ⟨a, rfl⟩ := h.is (by simp; omega)
  exact mix_v s ka a l hl w hk h
theorem comp_step (q : Nat) (s : S8) (l : List B8) : S8.comp (q + 1) s l = S8.comp q (s.mix (l.take 64)) (l.drop 64) := by rw [S8.comp]
theorem comp_zero (s : S8) (l : List B8) : S8.comp 0 s l = s := by rw [S8.comp]
theorem sum_r (p : Nat) (s : S8) (A : Option Addr) (l : List B8) (c n : Nat) (hl : l.length < 64) (hn : n ≤ 2000000) (w : World) (h : At w (some ⟨p, 0, none⟩) (digC s (.slice A l.length c) n)) (hb : At w A (l.map b8)) :
    Ret Tryz.prog 146 [.pointer (some ⟨p, 0, none⟩)] w (GivesE 5 ((finish s l n).map b8) (.int .i64 0)) := by
  obtain ⟨ks, hks⟩ : ∃ ks, ks = table := ⟨_, rfl⟩
  have hkl : ks.length = 64 := by rw [hks]; rfl
  have tb : ∀ w, Val Tryz.prog 163 [] w (.agg (ks.map w32).toArray) := fun w => by rw [hks]; exact table_v w
  have hF := fill_len l n
  have fl : ∀ w', St ⟨Tryz.prog, w, []⟩ [] w' → Ret Tryz.prog 165 [.pointer (some ⟨p, 0, none⟩)] w' (Gives 5 ((fill l n).map b8)) := fun w' hw => filled_r p s A l c n hl hn w' (h.here hw (fun _ _ => by simp)) (hb.here hw (fun _ _ => by simp))
  rw [finish]
  obtain ⟨F, hFe⟩ : ∃ F, F = fill l n := ⟨_, rfl⟩
  rw [← hFe] at hF fl ⊢
  refine ret_vc tab_ok Tryz.func146 rfl rfl ?_
  repeat' ((try (conv => whnf)); (first | refine CallVC.val (fun w hw => none_v p s _ n w (h.here hw (fun _ _ => by simp))) ?_ | refine Pick.mk _ (part_known (n := 8) h (by simp) rfl) ?_ | refine QuietVC.val (fun w hw => tb w) ?_ | refine Need.mk (by show (List.map w32 ks).toArray.size = 64; simpa using hkl) ?_ | refine store_all (by repeat (first | exact Upd.head _ | apply Upd.tail)) soft0 (ones_w _) (by show (List.map w32 ks).length = 64; simpa using hkl) ?_ | refine CallVC.givesB (fun w hw => fl w (hw.sub (List.nil_sublist _))) (fun b r fr hf => ?_) | refine Pick.mk pl146_3 (by decide +kernel) ?_ | refine Pick.mk pl146_7 (by decide +kernel) ?_ | refine Need.au ?_ | (refine Split.mk (fun hsplit => ?_) (fun hsplit => ?_) <;> (try simp only [List.cons.injEq, and_true, true_and, not_true_eq_false, not_false_eq_true] at hsplit) <;> try (exfalso; omega)) | refine Pick.au ?_ | refine store_au ?_ | refine Any.mk (fun _ => ?_) | refine Both.mk ?_ ?_)); all_goals (try (conv => whnf))
  · rename_i b4 b5
    refine LoopVC.mk (fun m env hs => ∃ (q : Nat) (s' : S8) (bs : List B8) (A' : Option Addr) (k cap : Nat), q = m ∧ bs.length = 64 * q ∧ S8.comp q s' bs = S8.comp (F.length / 64) s F ∧ k = bs.length ∧ bs.length ≤ cap ∧
      (∀ w', St ⟨Tryz.prog, w, []⟩ [⟨b, F.map b8 ++ r, 5, fr⟩] w' → At w' A' (bs.map b8)) ∧
      env = [(4, .pointer (some ⟨b4, 0, none⟩)), (5, .pointer (some ⟨b5, 0, none⟩)), (6, .slice A' k cap)] ∧
      hs = [⟨b, F.map b8 ++ r, 5, fr⟩, ⟨b5, ks.map w32, 237, (0, 0)⟩, ⟨b4, [w32 s'.a, w32 s'.b, w32 s'.c, w32 s'.d, w32 s'.e, w32 s'.f, w32 s'.g, w32 s'.h], 233, (0, 0)⟩]) (F.length / 64)
      (Weak.mk (Sub.cons rfl (Sub.cons rfl (Sub.cons rfl Sub.nil))) (List.Sublist.refl _) ⟨_, s, F, _, _, _, rfl, by omega, rfl, rfl, by simp, fun w' hw => at_pre (List.Mem.head _) hw, rfl, rfl⟩) ?_
    rintro m env hs ⟨q, s', bs, A', _, cap, rfl, hq, hc, rfl, hcap, hrow, rfl, rfl⟩
    repeat' ((try (conv => whnf)); (first | refine Pick.mk _ (pick_whole (cs := s'.list.map w32) (by repeat (first | exact List.Mem.head _ | refine List.Mem.tail _ ?_)) rfl) ?_ | (refine QuietVC.val (fun w hw => mix_a s' _ _ (bs.take 64) (by simp; omega) w (hks ▸ at_own (off := 0) (by repeat (first | exact List.Mem.head _ | refine List.Mem.tail _ ?_)) hw (fun i v hv => by rw [Nat.zero_add]; exact hv)) ((hrow w (hw.sub (List.Sublist.cons_cons _ (List.nil_sublist _)))).takeB 64)) ?_) | refine CallVC.givesB (fun w hw => put_r none [] 0 ⟨b4, 0, none⟩ s'.list 8 (by show 0 + 4 * 8 ≤ _; omega) w At.nil (at_own (off := 0) (by repeat (first | exact List.Mem.head _ | refine List.Mem.tail _ ?_)) hw (fun i v hv => by rw [Nat.zero_add]; exact hv))) (fun b r fr hf => ?_) | refine Pick.mk pl146_3 (by decide +kernel) ?_ | refine Pick.mk pl146_7 (by decide +kernel) ?_ | refine Need.au ?_ | (refine Split.mk (fun hsplit => ?_) (fun hsplit => ?_) <;> (try simp only [List.cons.injEq, and_true, true_and, not_true_eq_false, not_false_eq_true] at hsplit) <;> try (exfalso; omega)) | refine Pick.au ?_ | refine store_au ?_ | refine Any.mk (fun _ => ?_) | refine Both.mk ?_ ?_)); all_goals (try (conv => whnf))
    · obtain ⟨j, rfl⟩ : ∃ j, q = j + 1 := ⟨q - 1, by omega⟩
      refine again j (by omega) (Sub.cons rfl (Sub.cons rfl (Sub.cons rfl Sub.nil))) (List.Sublist.refl _) ⟨j, s'.mix (bs.take 64), bs.drop 64, _, _, _, rfl, by simp; omega, by rw [← hc, comp_step], ?_, ?_, ?_, rfl, rfl⟩
      · rw [List.length_drop]; rfl
      · rw [List.length_drop]; show _ - 64 ≤ cap - 64; omega
      · exact fun w' hw => (hrow w' hw).cutB hcap
    · obtain rfl : q = 0 := by omega
      rw [← hc, comp_zero]
      exact Done.mk ⟨_, rfl, Gives.mk (by repeat (first | exact List.Mem.head _ | refine List.Mem.tail _ ?_)) (by rw [List.length_map]; rfl) rfl ‹_›⟩
  · rename_i b5 b4
    refine LoopVC.perm (List.Perm.cons _ (List.Perm.swap _ _ _)) ?_
    refine LoopVC.mk (fun m env hs => ∃ (q : Nat) (s' : S8) (bs : List B8) (A' : Option Addr) (k cap : Nat), q = m ∧ bs.length = 64 * q ∧ S8.comp q s' bs = S8.comp (F.length / 64) s F ∧ k = bs.length ∧ bs.length ≤ cap ∧
      (∀ w', St ⟨Tryz.prog, w, []⟩ [⟨b, F.map b8 ++ r, 5, fr⟩] w' → At w' A' (bs.map b8)) ∧
      env = [(4, .pointer (some ⟨b4, 0, none⟩)), (5, .pointer (some ⟨b5, 0, none⟩)), (6, .slice A' k cap)] ∧
      hs = [⟨b, F.map b8 ++ r, 5, fr⟩, ⟨b5, ks.map w32, 237, (0, 0)⟩, ⟨b4, [w32 s'.a, w32 s'.b, w32 s'.c, w32 s'.d, w32 s'.e, w32 s'.f, w32 s'.g, w32 s'.h], 233, (0, 0)⟩]) (F.length / 64)
      (Weak.mk (Sub.cons rfl (Sub.cons rfl (Sub.cons rfl Sub.nil))) (List.Sublist.refl _) ⟨_, s, F, _, _, _, rfl, by omega, rfl, rfl, by simp, fun w' hw => at_pre (List.Mem.head _) hw, rfl, rfl⟩) ?_
    rintro m env hs ⟨q, s', bs, A', _, cap, rfl, hq, hc, rfl, hcap, hrow, rfl, rfl⟩
    repeat' ((try (conv => whnf)); (first | refine Pick.mk _ (pick_whole (cs := s'.list.map w32) (by repeat (first | exact List.Mem.head _ | refine List.Mem.tail _ ?_)) rfl) ?_ | (refine QuietVC.val (fun w hw => mix_a s' _ _ (bs.take 64) (by simp; omega) w (hks ▸ at_own (off := 0) (by repeat (first | exact List.Mem.head _ | refine List.Mem.tail _ ?_)) hw (fun i v hv => by rw [Nat.zero_add]; exact hv)) ((hrow w (hw.sub (List.Sublist.cons_cons _ (List.nil_sublist _)))).takeB 64)) ?_) | refine CallVC.givesB (fun w hw => put_r none [] 0 ⟨b4, 0, none⟩ s'.list 8 (by show 0 + 4 * 8 ≤ _; omega) w At.nil (at_own (off := 0) (by repeat (first | exact List.Mem.head _ | refine List.Mem.tail _ ?_)) hw (fun i v hv => by rw [Nat.zero_add]; exact hv))) (fun b r fr hf => ?_) | refine Pick.mk pl146_3 (by decide +kernel) ?_ | refine Pick.mk pl146_7 (by decide +kernel) ?_ | refine Need.au ?_ | (refine Split.mk (fun hsplit => ?_) (fun hsplit => ?_) <;> (try simp only [List.cons.injEq, and_true, true_and, not_true_eq_false, not_false_eq_true] at hsplit) <;> try (exfalso; omega)) | refine Pick.au ?_ | refine store_au ?_ | refine Any.mk (fun _ => ?_) | refine Both.mk ?_ ?_)); all_goals (try (conv => whnf))
    · obtain ⟨j, rfl⟩ : ∃ j, q = j + 1 := ⟨q - 1, by omega⟩
      refine again j (by omega) (Sub.cons rfl (Sub.cons rfl (Sub.cons rfl Sub.nil))) (List.Sublist.refl _) ⟨j, s'.mix (bs.take 64), bs.drop 64, _, _, _, rfl, by simp; omega, by rw [← hc, comp_step], ?_, ?_, ?_, rfl, rfl⟩
      · rw [List.length_drop]; rfl
      · rw [List.length_drop]; show _ - 64 ≤ cap - 64; omega
      · exact fun w' hw => (hrow w' hw).cutB hcap
    · obtain rfl : q = 0 := by omega
      rw [← hc, comp_zero]
      exact Done.mk ⟨_, rfl, Gives.mk (by repeat (first | exact List.Mem.head _ | refine List.Mem.tail _ ?_)) (by rw [List.length_map]; rfl) rfl ‹_›⟩
end Go.Proofs.YtnlheljpagpiiaaGreat
