/-
  Digests: the tables, the words of a block, what a block makes of a state, in the program; every input.
-/
import Derived.Test.YtnlheljpagpiiaaGreatSa
set_option linter.unusedVariables false
set_option linter.unusedSimpArgs false
set_option maxRecDepth 100000
set_option maxHeartbeats 4000000
namespace Go.Proofs.YtnlheljpagpiiaaGreat
open Go
attribute [local irreducible] bitsOf shlOf shrOf

theorem words_set (l : List B8) (t : Nat) (ht : t < 64) : (words l t ++ List.replicate (64 - t) 0).set t (wordAt l t) = words l (t + 1) ++ List.replicate (64 - (t + 1)) 0 := by
  have hl : (words l t).length = t := by simp [words]
  rw [List.set_append_right _ _ (by omega), hl, Nat.sub_self, show 64 - t = (64 - (t + 1)) + 1 by omega, List.replicate_succ, List.set_cons_zero]
  simp only [words, List.range_succ, List.map_append, List.map_cons, List.map_nil, List.append_assoc, List.cons_append, List.nil_append]
theorem ws_set (ws : List W32) (m : Nat) (v : W32) : (ws ++ List.replicate (m + 1) 0).set ws.length v = ws ++ [v] ++ List.replicate m 0 := by
  rw [List.set_append_right _ _ (Nat.le_refl _), Nat.sub_self, List.replicate_succ, List.set_cons_zero]
  simp
theorem table_v (w : World) : Val Tryz.prog 163 [] w (.agg (table.map w32).toArray) := by
  refine val_vc tab_ok Tryz.func163 rfl rfl ?_
  repeat' ((try (conv => whnf)); (first | refine Need.au ?_ | (refine Split.mk (fun hsplit => ?_) (fun hsplit => ?_) <;> (try simp only [List.cons.injEq, and_true, true_and, not_true_eq_false, not_false_eq_true] at hsplit) <;> try (exfalso; omega)) | refine Pick.au ?_ | refine store_au ?_ | refine Any.mk (fun _ => ?_) | refine Both.mk ?_ ?_)); all_goals (try (conv => whnf))
  all_goals refine Done.mk (by kernel_rfl)
theorem begin_v (w : World) : Val Tryz.prog 161 [] w (.agg (S8.begin.list.map w32).toArray) := by
  refine val_vc tab_ok Tryz.func161 rfl rfl ?_
  repeat' ((try (conv => whnf)); (first | refine Need.au ?_ | (refine Split.mk (fun hsplit => ?_) (fun hsplit => ?_) <;> (try simp only [List.cons.injEq, and_true, true_and, not_true_eq_false, not_false_eq_true] at hsplit) <;> try (exfalso; omega)) | refine Pick.au ?_ | refine store_au ?_ | refine Any.mk (fun _ => ?_) | refine Both.mk ?_ ?_)); all_goals (try (conv => whnf))
  all_goals refine Done.mk (by kernel_rfl)
theorem wordAt_eq (l : List B8) (t : Nat) : wordAt l t = be (l.getD (4 * (t : Int)).toNat 0) (l.getD (4 * (t : Int) + 1).toNat 0) (l.getD (4 * (t : Int) + 2).toNat 0) (l.getD (4 * (t : Int) + 3).toNat 0) := by
  unfold wordAt
  rw [show (4 * (t : Int)).toNat = 4 * t by omega, show (4 * (t : Int) + 1).toNat = 4 * t + 1 by omega, show (4 * (t : Int) + 2).toNat = 4 * t + 2 by omega, show (4 * (t : Int) + 3).toNat = 4 * t + 3 by omega]
theorem nextW_eq (l : List W32) (t : Nat) (ht : l.length = t) (h16 : 16 ≤ t) (z : List W32) :
    nextW l = small1 ((l ++ z).getD ((t : Int) - 2).toNat 0) + (l ++ z).getD ((t : Int) - 7).toNat 0 + small0 ((l ++ z).getD ((t : Int) - 15).toNat 0) + (l ++ z).getD ((t : Int) - 16).toNat 0 := by
  unfold nextW
  have e : ∀ (x : Int) (k : Nat), x.toNat = t - k → 1 ≤ k → (l ++ z).getD x.toNat 0 = l.getD (l.length - k) 0 := by
    intro x k hx h1
    rw [List.getD_eq_getElem?_getD, List.getD_eq_getElem?_getD, hx, List.getElem?_append_left (by omega), ht]
  rw [e ((t : Int) - 2) 2 (by omega) (by omega), e ((t : Int) - 7) 7 (by omega) (by omega), e ((t : Int) - 15) 15 (by omega) (by omega), e ((t : Int) - 16) 16 (by omega) (by omega)]
theorem schedule_v (a : Addr) (l : List B8) (hl : l.length = 64) (w : World) (h : At w (some a) (l.map b8)) : Val Tryz.prog 173 [.pointer (some a)] w (.agg ((sched l).map w32).toArray) := by
  refine val_vc tab_ok Tryz.func173 rfl rfl ?_
  repeat' ((try (conv => whnf)); (first | refine Pick.mk pl173_5 (by decide +kernel) ?_ | refine Pick.mk pl173_10 (by decide +kernel) ?_ | refine Need.au ?_ | (refine Split.mk (fun hsplit => ?_) (fun hsplit => ?_) <;> (try simp only [List.cons.injEq, and_true, true_and, not_true_eq_false, not_false_eq_true] at hsplit) <;> try (exfalso; omega)) | refine Pick.au ?_ | refine store_au ?_ | refine Any.mk (fun _ => ?_) | refine Both.mk ?_ ?_)); all_goals (try (conv => whnf))
  rename_i b2 b3
  refine LoopVC.mk (fun n env hs => ∃ (t : Nat) (x : Int) (cs : List Value), x = t ∧ t + n = 16 ∧ cs = (words l t ++ List.replicate (64 - t) 0).map w32 ∧
    env = [(0, .pointer (some a)), (2, .pointer (some ⟨b2, 0, none⟩)), (3, .pointer (some ⟨b3, 0, none⟩)), (6, .int .i64 x)] ∧ hs = [⟨b3, cs, 237, (0, 0)⟩, ⟨b2, ty237.zero, 237, (0, 0)⟩]) 16
    (Weak.mk (Sub.cons rfl (Sub.cons rfl (Sub.cons rfl (Sub.cons rfl Sub.nil)))) (List.Sublist.refl _) ⟨0, 0, _, rfl, rfl, rfl, rfl, rfl⟩) ?_
  rintro n env hs ⟨t, _, _, rfl, ht, rfl, rfl, rfl⟩
  repeat' ((try (conv => whnf)); (first | refine Pick.mk _ (cell_arg h (by simp) (by omega)) ?_ | refine Pick.mk _ (shl_u32 _ _ (by omega) (by omega)) ?_ | refine Pick.mk _ (or_u32 _ _) ?_ | refine Pick.mk _ (conv8_32 _) ?_ | refine store_el (by repeat (first | exact Upd.head _ | apply Upd.tail)) soft0 rfl (by simp [words]; omega) ?_ | refine Pick.mk pl173_5 (by decide +kernel) ?_ | refine Pick.mk pl173_10 (by decide +kernel) ?_ | refine Need.au ?_ | (refine Split.mk (fun hsplit => ?_) (fun hsplit => ?_) <;> (try simp only [List.cons.injEq, and_true, true_and, not_true_eq_false, not_false_eq_true] at hsplit) <;> try (exfalso; omega)) | refine Pick.au ?_ | refine store_au ?_ | refine Any.mk (fun _ => ?_) | refine Both.mk ?_ ?_)); all_goals (try (conv => whnf))
  · refine again (n - 1) (by omega) (Sub.cons rfl (Sub.cons rfl (Sub.cons rfl (Sub.cons rfl Sub.nil)))) (List.Sublist.refl _) ⟨t + 1, _, _, by omega, by omega, ?_, rfl, rfl⟩
    refine Eq.trans ?_ ((map_set w32 _ t (wordAt l t)).trans (congrArg _ (words_set l t (by omega))))
    rw [wordAt_eq, Int.toNat_natCast]
    rfl
  · obtain rfl : t = 16 := by omega
    refine LoopVC.mk (fun n env hs => ∃ (ws : List W32) (x : Int) (cs : List Value), x = ws.length ∧ 16 ≤ ws.length ∧ ws.length + n = 64 ∧ extend n ws = sched l ∧ cs = (ws ++ List.replicate n 0).map w32 ∧
      env = [(2, .pointer (some ⟨b2, 0, none⟩)), (3, .pointer (some ⟨b3, 0, none⟩)), (5, .int .i64 x)] ∧ hs = [⟨b3, cs, 237, (0, 0)⟩, ⟨b2, ty237.zero, 237, (0, 0)⟩]) 48
      (Weak.mk (Sub.cons rfl (Sub.cons rfl (Sub.cons rfl Sub.nil))) (List.Sublist.refl _) ⟨words l 16, 16, _, by simp [words], by simp [words], by simp [words], by rw [sched], rfl, rfl, rfl⟩) ?_
    clear ht
    rintro n env hs ⟨ws, _, _, rfl, h16, ht, hx, rfl, rfl, rfl⟩
    repeat' ((try (conv => whnf)); (first | refine Pick.mk _ (cell_w (by repeat (first | exact List.Mem.head _ | refine List.Mem.tail _ ?_)) (by simp; omega)) ?_ | refine QuietVC.val (fun w _ => small1_v _ w) ?_ | refine QuietVC.val (fun w _ => small0_v _ w) ?_ | refine Pick.mk _ (add_u32 _ _) ?_ | refine store_el (by repeat (first | exact Upd.head _ | apply Upd.tail)) soft0 rfl (by simp; omega) ?_ | refine Need.mk (by simp [ty237]; omega) ?_ | refine Pick.mk _ (pick_whole (by repeat (first | exact List.Mem.head _ | refine List.Mem.tail _ ?_)) (by simp [ty237]; omega)) ?_ | refine store_all (by repeat (first | exact Upd.head _ | apply Upd.tail)) soft0 (ones_w _) (by simp [ty237]; omega) ?_ | refine Pick.mk pl173_5 (by decide +kernel) ?_ | refine Pick.mk pl173_10 (by decide +kernel) ?_ | refine Need.au ?_ | (refine Split.mk (fun hsplit => ?_) (fun hsplit => ?_) <;> (try simp only [List.cons.injEq, and_true, true_and, not_true_eq_false, not_false_eq_true] at hsplit) <;> try (exfalso; omega)) | refine Pick.au ?_ | refine store_au ?_ | refine Any.mk (fun _ => ?_) | refine Both.mk ?_ ?_)); all_goals (try (conv => whnf))
    · obtain ⟨m, rfl⟩ : ∃ m, n = m + 1 := ⟨n - 1, by omega⟩
      refine again m (by omega) (Sub.cons rfl (Sub.cons rfl (Sub.cons rfl Sub.nil))) (List.Sublist.refl _) ⟨ws ++ [nextW ws], _, _, by simp, by simp; omega, by simp; omega, by rw [← hx, extend], ?_, rfl, rfl⟩
      refine Eq.trans ?_ ((map_set w32 _ ws.length (nextW ws)).trans (congrArg _ (ws_set ws m _)))
      rw [nextW_eq ws ws.length rfl h16 (List.replicate (m + 1) 0), Int.toNat_natCast]
    · obtain rfl : n = 0 := by omega
      refine Done.mk ?_
      rw [extend] at hx
      subst hx
      simp [packed]
theorem rounds_step (ks ws : List W32) (t : Nat) (s : S8) (h1 : t < ks.length) (h2 : t < ws.length) : S8.rounds (ks.drop t) (ws.drop t) s = S8.rounds (ks.drop (t + 1)) (ws.drop (t + 1)) (s.round (ks.getD t 0) (ws.getD t 0)) := by
  rw [List.drop_eq_getElem_cons h1, List.drop_eq_getElem_cons h2, S8.rounds, List.getD_eq_getElem?_getD, List.getD_eq_getElem?_getD, List.getElem?_eq_getElem h1, List.getElem?_eq_getElem h2]
  rfl
theorem table_len : table.length = 64 := rfl
theorem mix_v (s : S8) (ka ba : Addr) (l : List B8) (hl : l.length = 64) (w : World) (hk : At w (some ka) (table.map w32)) (h : At w (some ba) (l.map b8)) :
    Val Tryz.prog 164 [.agg (s.list.map w32).toArray, .pointer (some ka), .pointer (some ba)] w (.agg ((s.mix l).list.map w32).toArray) := by
  have sch : ∀ w', St ⟨Tryz.prog, w, []⟩ [] w' → Val Tryz.prog 173 [.pointer (some ba)] w' (.agg ((sched l).map w32).toArray) := fun w' hw => schedule_v ba l hl w' (h.old hw (fun _ _ => by simp))
  have hsl := sched_len l
  rw [S8.mix]
  obtain ⟨ws, hws⟩ : ∃ ws, ws = sched l := ⟨_, rfl⟩
  rw [← hws] at sch hsl ⊢
  obtain ⟨ks, hks⟩ : ∃ ks, ks = table := ⟨_, rfl⟩
  have hkl := table_len
  rw [← hks] at hk hkl ⊢
  clear hks hws
  obtain ⟨a, b, c, d, e, f, g, i⟩ := s
  refine val_vc tab_ok Tryz.func164 rfl rfl ?_
  repeat' ((try (conv => whnf)); (first | refine CallVC.val (fun w hw => sch w (hw.sub (List.nil_sublist _))) ?_ | refine Need.mk (by show (List.map w32 ws).toArray.size = 64; simpa using hsl) ?_ | refine store_all (by repeat (first | exact Upd.head _ | apply Upd.tail)) soft0 (ones_w _) (by show (List.map w32 ws).length = 64; simpa using hsl) ?_ | refine Pick.mk pl164_2 (by decide +kernel) ?_ | refine Pick.mk pl164_6 (by decide +kernel) ?_ | refine Need.au ?_ | (refine Split.mk (fun hsplit => ?_) (fun hsplit => ?_) <;> (try simp only [List.cons.injEq, and_true, true_and, not_true_eq_false, not_false_eq_true] at hsplit) <;> try (exfalso; omega)) | refine Pick.au ?_ | refine store_au ?_ | refine Any.mk (fun _ => ?_) | refine Both.mk ?_ ?_)); all_goals (try (conv => whnf))
  rename_i b3 b6 b7
  refine LoopVC.mk (fun n env hs => ∃ (t : Nat) (x : Int) (p : S8), x = t ∧ t + n = 64 ∧ S8.rounds (ks.drop t) (ws.drop t) p = S8.rounds ks ws ⟨a, b, c, d, e, f, g, i⟩ ∧
    env = [(1, .pointer (some ka)), (3, .pointer (some ⟨b3, 0, none⟩)), (6, .pointer (some ⟨b6, 0, none⟩)), (7, .pointer (some ⟨b7, 0, none⟩)), (8, w32 p.a), (9, w32 p.b), (10, w32 p.c), (11, w32 p.d), (12, w32 p.e), (13, w32 p.f), (14, w32 p.g), (15, w32 p.h), (37, .int .i64 x)] ∧
    hs = [⟨b7, ws.map w32, 237, (0, 0)⟩, ⟨b6, ty233.zero, 233, (0, 0)⟩, ⟨b3, [w32 a, w32 b, w32 c, w32 d, w32 e, w32 f, w32 g, w32 i], 233, (0, 0)⟩]) 64
    (Weak.mk (Sub.cons rfl (Sub.cons rfl (Sub.cons rfl (Sub.cons rfl (Sub.cons rfl (Sub.cons rfl (Sub.cons rfl (Sub.cons rfl (Sub.cons rfl (Sub.cons rfl (Sub.cons rfl (Sub.cons rfl (Sub.cons rfl Sub.nil))))))))))))) (List.Sublist.refl _) ⟨0, 0, ⟨a, b, c, d, e, f, g, i⟩, rfl, rfl, rfl, rfl, rfl⟩) ?_
  rintro n env hs ⟨t, _, p, rfl, ht, hr, rfl, rfl⟩
  repeat' ((try (conv => whnf)); (first | refine Pick.mk _ (cell_w (by repeat (first | exact List.Mem.head _ | refine List.Mem.tail _ ?_)) (by omega)) ?_ | refine Pick.mk _ (word_arg hk (by simp) (by omega)) ?_ | refine QuietVC.val (fun w _ => great1_v _ w) ?_ | refine CallVC.val (fun w _ => great0_v _ w) ?_ | refine Pick.mk _ (add_u32 _ _) ?_ | refine Pick.mk _ (xor_u32 _ _) ?_ | refine Pick.mk _ (or_u32 _ _) ?_ | refine Pick.mk _ (and_u32 _ _) ?_ | refine Pick.mk pl164_2 (by decide +kernel) ?_ | refine Pick.mk pl164_6 (by decide +kernel) ?_ | refine Need.au ?_ | (refine Split.mk (fun hsplit => ?_) (fun hsplit => ?_) <;> (try simp only [List.cons.injEq, and_true, true_and, not_true_eq_false, not_false_eq_true] at hsplit) <;> try (exfalso; omega)) | refine Pick.au ?_ | refine store_au ?_ | refine Any.mk (fun _ => ?_) | refine Both.mk ?_ ?_)); all_goals (try (conv => whnf))
  · refine again (n - 1) (by omega) (Sub.cons rfl (Sub.cons rfl (Sub.cons rfl (Sub.cons rfl (Sub.cons rfl (Sub.cons rfl (Sub.cons rfl (Sub.cons rfl (Sub.cons rfl (Sub.cons rfl (Sub.cons rfl (Sub.cons rfl (Sub.cons rfl Sub.nil))))))))))))) (List.Sublist.refl _) ⟨t + 1, _, p.round (ks.getD t 0) (ws.getD t 0), by omega, by omega, ?_, rfl, rfl⟩
    rw [← rounds_step _ _ _ _ (by omega) (by omega), hr]
  · obtain rfl : t = 64 := by omega
    refine Done.mk ?_
    rw [List.drop_eq_nil_of_le (by omega), S8.rounds] at hr
    · rw [← hr]; rfl
    · intros; simp_all
end Go.Proofs.YtnlheljpagpiiaaGreat
