/-
  Digests: what a block makes of a state, in the document; every input.
-/
import Derived.Test.YtnlheljpagpiiaaGreatSb
set_option linter.unusedVariables false
set_option linter.unusedSimpArgs false
set_option maxRecDepth 100000
set_option maxHeartbeats 4000000
namespace Go.Proofs.YtnlheljpagpiiaaGreat
open Go
attribute [local irreducible] bitsOf shlOf shrOf

theorem rtable_v (w : World) : Val Tryz.prog 167 [] w (.agg (table.map w32).toArray) := by
  refine val_vc tab_ok Tryz.func167 rfl rfl ?_
  repeat' ((try (conv => whnf)); (first | refine Need.au ?_ | (refine Split.mk (fun hsplit => ?_) (fun hsplit => ?_) <;> (try simp only [List.cons.injEq, and_true, true_and, not_true_eq_false, not_false_eq_true] at hsplit) <;> try (exfalso; omega)) | refine Pick.au ?_ | refine store_au ?_ | refine Any.mk (fun _ => ?_) | refine Both.mk ?_ ?_)); all_goals (try (conv => whnf))
  all_goals refine Done.mk (by kernel_rfl)
theorem rbegin_r (w : World) : Ret Tryz.prog 149 [] w fun v hs => Gives 151 (S8.begin.list.map w32) v hs := by
  refine ret_vc tab_ok Tryz.func149 rfl rfl ?_
  repeat' ((try (conv => whnf)); (first | refine Need.au ?_ | (refine Split.mk (fun hsplit => ?_) (fun hsplit => ?_) <;> (try simp only [List.cons.injEq, and_true, true_and, not_true_eq_false, not_false_eq_true] at hsplit) <;> try (exfalso; omega)) | refine Pick.au ?_ | refine store_au ?_ | refine Any.mk (fun _ => ?_) | refine Both.mk ?_ ?_)); all_goals (try (conv => whnf))
  all_goals refine Done.mk (Gives.all (by repeat (first | exact List.Mem.head _ | refine List.Mem.tail _ ?_)) (by kernel_rfl) rfl rfl)
/-- Bytes as a number, the first the greatest. -/
def loadW (l : List B8) (at_ : Nat) : Nat → BitVec 64
  | 0 => 0
  | i + 1 => loadW l at_ i <<< 8 ||| (l.getD (at_ + i) 0).setWidth 64
theorem load_v (a : Addr) (l : List B8) (c at_ n : Nat) (h8 : n ≤ 8) (hl : at_ + n ≤ l.length) (hb : l.length ≤ 9000000) (w : World) (h : At w (some a) (l.map b8)) :
    Val Tryz.prog 176 [.slice (some a) l.length c, .int .i64 at_, .int .i64 n] w (.tuple #[w64 (loadW l at_ n), .int .i64 0]) := by
  refine val_vc tab_ok Tryz.func176 rfl rfl ?_
  repeat' ((try (conv => whnf)); (first | refine Need.au ?_ | (refine Split.mk (fun hsplit => ?_) (fun hsplit => ?_) <;> (try simp only [List.cons.injEq, and_true, true_and, not_true_eq_false, not_false_eq_true] at hsplit) <;> try (exfalso; omega)) | refine Pick.au ?_ | refine store_au ?_ | refine Any.mk (fun _ => ?_) | refine Both.mk ?_ ?_)); all_goals (try (conv => whnf))
  all_goals try (exfalso; omega)
  refine LoopVC.mk (fun k env hs => ∃ (i : Nat) (x : Int) (v : BitVec 64), x = i ∧ i + k = n ∧ v = loadW l at_ i ∧
    env = [(0, .slice (some a) l.length c), (1, .int .i64 at_), (2, .int .i64 n), (8, w64 v), (9, .int .i64 x)] ∧ hs = []) n
    (Weak.mk (Sub.cons rfl (Sub.cons rfl (Sub.cons rfl (Sub.cons rfl (Sub.cons rfl Sub.nil))))) (List.Sublist.refl _) ⟨0, 0, 0, rfl, by omega, rfl, rfl, rfl⟩) ?_
  rintro k env hs ⟨i, _, _, rfl, hi, rfl, rfl, rfl⟩
  repeat' ((try (conv => whnf)); (first | refine Pick.mk _ (cell_arg h (by simp) (by omega)) ?_ | refine Pick.mk _ (shl_u64 _ _ (by omega) (by omega)) ?_ | refine Pick.mk _ (or_u64 _ _) ?_ | refine Pick.mk _ (conv8_64 _) ?_ | refine Need.au ?_ | (refine Split.mk (fun hsplit => ?_) (fun hsplit => ?_) <;> (try simp only [List.cons.injEq, and_true, true_and, not_true_eq_false, not_false_eq_true] at hsplit) <;> try (exfalso; omega)) | refine Pick.au ?_ | refine store_au ?_ | refine Any.mk (fun _ => ?_) | refine Both.mk ?_ ?_)); all_goals (try (conv => whnf))
  · refine again (k - 1) (by omega) (Sub.cons rfl (Sub.cons rfl (Sub.cons rfl (Sub.cons rfl (Sub.cons rfl Sub.nil))))) (List.Sublist.refl _) ⟨i + 1, _, _, by omega, by omega, ?_, rfl, rfl⟩
    rw [loadW, show ((at_ : Int) + (i : Int)).toNat = at_ + i by omega]
    rfl
  · obtain rfl : i = n := by omega
    refine Done.mk rfl
theorem be_eq (l : List B8) (t : Nat) : (loadW l (4 * t) 4).setWidth 32 = wordAt l t := by
  simp only [loadW, wordAt, be, Nat.add_zero]
  simp only [BitVec.shiftLeft_or_distrib, BitVec.setWidth_or, ← BitVec.shiftLeft_add]
  simp
theorem load32_v (a : Addr) (l : List B8) (c t : Nat) (hl : 4 * t + 4 ≤ l.length) (hb : l.length ≤ 9000000) (w : World) (h : At w (some a) (l.map b8)) :
    Val Tryz.prog 168 [.slice (some a) l.length c, .int .i64 (4 * t)] w (.tuple #[w32 (wordAt l t), .int .i64 0]) := by
  have ld : ∀ w', St ⟨Tryz.prog, w, []⟩ [] w' → Val Tryz.prog 176 [.slice (some a) l.length c, .int .i64 (4 * t), .int .i64 4] w' (.tuple #[w64 (loadW l (4 * t) 4), .int .i64 0]) :=
    fun w' hw => load_v a l c (4 * t) 4 (by omega) hl hb w' (h.old hw (fun _ _ => by simp))
  refine val_vc tab_ok Tryz.func168 rfl rfl ?_
  repeat' ((try (conv => whnf)); (first | refine CallVC.val (fun w hw => ld w (hw.sub (List.nil_sublist _))) ?_ | refine Pick.mk _ (conv64_32 _) ?_ | refine Need.au ?_ | (refine Split.mk (fun hsplit => ?_) (fun hsplit => ?_) <;> (try simp only [List.cons.injEq, and_true, true_and, not_true_eq_false, not_false_eq_true] at hsplit) <;> try (exfalso; omega)) | refine Pick.au ?_ | refine store_au ?_ | refine Any.mk (fun _ => ?_) | refine Both.mk ?_ ?_)); all_goals (try (conv => whnf))
  refine Done.mk ?_
  rw [be_eq]
  rfl
/-- The first so many words of one added to those of another. -/
def sumTo (p s : List W32) (i : Nat) : List W32 := (List.range p.length).map fun k => if k < i then p.getD k 0 + s.getD k 0 else p.getD k 0
theorem sumTo_zero (p s : List W32) : sumTo p s 0 = p := by
  refine List.ext_getElem (by simp [sumTo]) fun k h1 h2 => ?_
  simp [sumTo, List.getElem?_eq_getElem h2]
theorem sumTo_get (p s : List W32) (i : Nat) (hi : i < p.length) : (sumTo p s i).getD i 0 = p.getD i 0 := by
  simp [sumTo, hi]
theorem sumTo_set (p s : List W32) (i : Nat) (hi : i < p.length) : (sumTo p s i).set i (p.getD i 0 + s.getD i 0) = sumTo p s (i + 1) := by
  refine List.ext_getElem (by simp [sumTo]) fun k h1 h2 => ?_
  simp only [sumTo, List.length_set, List.length_map, List.length_range] at h1
  simp only [sumTo, List.getElem_set, List.getElem_map, List.getElem_range]
  by_cases hk : i = k
  · subst hk; simp
  · rw [if_neg hk]
    by_cases h3 : k < i
    · rw [if_pos h3, if_pos (by omega)]
    · rw [if_neg h3, if_neg (by omega)]
theorem sumTo_len (p s : List W32) (i : Nat) : (sumTo p s i).length = p.length := by simp [sumTo]
theorem sumTo_list (p s : S8) : sumTo p.list s.list 8 = (s.plus p).list := by
  simp [sumTo, S8.list, S8.plus, List.range_succ, BitVec.add_comm]
theorem apw : ApT tab 203 203 151 ty151 := ⟨⟨_, rfl, rfl⟩, rfl, ⟨_, rfl, .inr ⟨_, rfl⟩⟩, by decide⟩
theorem apb : ApT tab 23 23 5 ty5 := ⟨⟨_, rfl, rfl⟩, rfl, ⟨_, rfl, .inr ⟨_, rfl⟩⟩, by decide⟩
theorem block_r (s : S8) (sa ba : Addr) (l : List B8) (c c' : Nat) (hl : l.length = 64) (w : World) (hs : At w (some sa) (s.list.map w32)) (h : At w (some ba) (l.map b8)) :
    Ret Tryz.prog 150 [.slice (some sa) 8 c, .slice (some ba) 64 c'] w (GivesE 151 ((s.mix l).list.map w32) (.int .i64 0)) := by
  have ld : ∀ (t : Nat) (x : Int), x = 4 * t → t < 16 → ∀ w', St ⟨Tryz.prog, w, []⟩ [] w' → Val Tryz.prog 168 [.slice (some ba) 64 c', .int .i64 x] w' (.tuple #[w32 (wordAt l t), .int .i64 0]) :=
    fun t x hx ht w' hw => by rw [hx, ← hl]; exact load32_v ba l c' t (by omega) (by omega) w' (h.old hw (fun _ _ => by simp))
  obtain ⟨ks, hks⟩ : ∃ ks, ks = table := ⟨_, rfl⟩
  have hkl := table_len
  have tb : ∀ w, Val Tryz.prog 167 [] w (.agg (ks.map w32).toArray) := fun w => by rw [hks]; exact rtable_v w
  have hsl := sched_len l
  rw [S8.mix, ← hks]
  rw [← hks] at hkl
  clear hks
  obtain ⟨ss, hss⟩ : ∃ ss, ss = s.list := ⟨_, rfl⟩
  have hsn : ss.length = 8 := by rw [hss]; rfl
  rw [← hss] at hs
  refine ret_vc tab_ok Tryz.func150 rfl rfl ?_
  repeat' ((try (conv => whnf)); (first | refine CallVC.val (fun w hw => tb w) ?_ | refine Need.mk (by show (List.map w32 ks).toArray.size = 64; simpa using hkl) ?_ | refine store_all (by repeat (first | exact Upd.head _ | apply Upd.tail)) soft0 (ones_w _) (by show (List.map w32 ks).length = 64; simpa using hkl) ?_ | refine Pick.mk pl150_13 (by decide +kernel) ?_ | refine Pick.mk pl150_20 (by decide +kernel) ?_ | refine Pick.mk pl150_21 (by decide +kernel) ?_ | refine Pick.mk pl150_22 (by decide +kernel) ?_ | refine Pick.mk pl150_26 (by decide +kernel) ?_ | refine Need.au ?_ | (refine Split.mk (fun hsplit => ?_) (fun hsplit => ?_) <;> (try simp only [List.cons.injEq, and_true, true_and, not_true_eq_false, not_false_eq_true] at hsplit) <;> try (exfalso; omega)) | refine Pick.au ?_ | refine store_au ?_ | refine Any.mk (fun _ => ?_) | refine Both.mk ?_ ?_)); all_goals (try (conv => whnf))
  rename_i b6 b7
  refine LoopVC.mk (fun n env hs => ∃ (t : Nat) (x : Int) (cs : List Value), x = t ∧ t + n = 16 ∧ cs = (words l t ++ List.replicate (64 - t) 0).map w32 ∧
    env = [(0, .slice (some sa) 8 c), (1, .slice (some ba) 64 c'), (6, .pointer (some ⟨b6, 0, none⟩)), (7, .pointer (some ⟨b7, 0, none⟩)), (8, .int .i64 x)] ∧ hs = [⟨b7, cs, 237, (0, 0)⟩, ⟨b6, ks.map w32, 237, (0, 0)⟩]) 16
    (Weak.mk (Sub.cons rfl (Sub.cons rfl (Sub.cons rfl (Sub.cons rfl (Sub.cons rfl Sub.nil))))) (List.Sublist.refl _) ⟨0, 0, _, rfl, rfl, rfl, rfl, rfl⟩) ?_
  rintro n env hs ⟨t, _, _, rfl, ht, rfl, rfl, rfl⟩
  repeat' ((try (conv => whnf)); (first | refine CallVC.val (fun w hw => ld t _ rfl (by omega) w (hw.sub (List.nil_sublist _))) ?_ | refine store_el (by repeat (first | exact Upd.head _ | apply Upd.tail)) soft0 rfl (by simp [words]; omega) ?_ | refine Pick.mk pl150_13 (by decide +kernel) ?_ | refine Pick.mk pl150_20 (by decide +kernel) ?_ | refine Pick.mk pl150_21 (by decide +kernel) ?_ | refine Pick.mk pl150_22 (by decide +kernel) ?_ | refine Pick.mk pl150_26 (by decide +kernel) ?_ | refine Need.au ?_ | (refine Split.mk (fun hsplit => ?_) (fun hsplit => ?_) <;> (try simp only [List.cons.injEq, and_true, true_and, not_true_eq_false, not_false_eq_true] at hsplit) <;> try (exfalso; omega)) | refine Pick.au ?_ | refine store_au ?_ | refine Any.mk (fun _ => ?_) | refine Both.mk ?_ ?_)); all_goals (try (conv => whnf))
  · refine again (n - 1) (by omega) (Sub.cons rfl (Sub.cons rfl (Sub.cons rfl (Sub.cons rfl (Sub.cons rfl Sub.nil))))) (List.Sublist.refl _) ⟨t + 1, _, _, by omega, by omega, ?_, rfl, rfl⟩
    rw [Int.toNat_natCast]
    exact (map_set w32 _ t (wordAt l t)).trans (congrArg _ (words_set l t (by omega)))
  obtain rfl : t = 16 := by omega
  clear ld ht
  refine LoopVC.mk (fun n env hs => ∃ (ws : List W32) (x : Int) (cs : List Value), x = ws.length ∧ 16 ≤ ws.length ∧ ws.length + n = 64 ∧ extend n ws = sched l ∧ cs = (ws ++ List.replicate n 0).map w32 ∧
    env = [(0, .slice (some sa) 8 c), (6, .pointer (some ⟨b6, 0, none⟩)), (7, .pointer (some ⟨b7, 0, none⟩)), (11, .int .i64 x)] ∧ hs = [⟨b7, cs, 237, (0, 0)⟩, ⟨b6, ks.map w32, 237, (0, 0)⟩]) 48
    (Weak.mk (Sub.cons rfl (Sub.cons rfl (Sub.cons rfl (Sub.cons rfl Sub.nil)))) (List.Sublist.refl _) ⟨words l 16, 16, _, by simp [words], by simp [words], by simp [words], by rw [sched], rfl, rfl, rfl⟩) ?_
  rintro n env hs ⟨ws, _, _, rfl, h16, ht, hx, rfl, rfl, rfl⟩
  repeat' ((try (conv => whnf)); (first | refine Pick.mk _ (cell_w (by repeat (first | exact List.Mem.head _ | refine List.Mem.tail _ ?_)) (by simp; omega)) ?_ | refine QuietVC.val (fun w _ => turns_v _ _ _ _ (by omega) (by omega) (by omega) (by omega) (by omega) (by omega) (by omega) w) ?_ | refine Pick.mk _ (add_u32 _ _) ?_ | refine store_el (by repeat (first | exact Upd.head _ | apply Upd.tail)) soft0 rfl (by simp; omega) ?_ | (refine AppendVC.on (xs := []) (r := []) tab_ok apw rfl (by repeat (first | exact Take.head _ | apply Take.tail)) soft0 rfl rfl (Holds.at (by simpa using hsn) hs (by simp)) (ones_w _) (by decide) (fun b12 r12 fr12 hf12 => ?_)) | refine Pick.mk pl150_13 (by decide +kernel) ?_ | refine Pick.mk pl150_20 (by decide +kernel) ?_ | refine Pick.mk pl150_21 (by decide +kernel) ?_ | refine Pick.mk pl150_22 (by decide +kernel) ?_ | refine Pick.mk pl150_26 (by decide +kernel) ?_ | refine Need.au ?_ | (refine Split.mk (fun hsplit => ?_) (fun hsplit => ?_) <;> (try simp only [List.cons.injEq, and_true, true_and, not_true_eq_false, not_false_eq_true] at hsplit) <;> try (exfalso; omega)) | refine Pick.au ?_ | refine store_au ?_ | refine Any.mk (fun _ => ?_) | refine Both.mk ?_ ?_)); all_goals (try (conv => whnf))
  · obtain ⟨m, rfl⟩ : ∃ m, n = m + 1 := ⟨n - 1, by omega⟩
    refine again m (by omega) (Sub.cons rfl (Sub.cons rfl (Sub.cons rfl (Sub.cons rfl Sub.nil)))) (List.Sublist.refl _) ⟨ws ++ [nextW ws], _, _, by simp, by simp; omega, by simp; omega, by rw [← hx, extend], ?_, rfl, rfl⟩
    refine Eq.trans ?_ ((map_set w32 _ ws.length (nextW ws)).trans (congrArg _ (ws_set ws m _)))
    rw [nextW_eq ws ws.length rfl h16 (List.replicate (m + 1) 0), Int.toNat_natCast]
    rfl
  obtain rfl : n = 0 := by omega
  rw [extend] at hx
  have hwl : ws.length = 64 := by omega
  rw [← hx]
  clear hsl hx h ht
  subst hss
  have hl8 : ([] ++ List.map w32 s.list ++ r12).length = 8 + r12.length := by simp [S8.list]; omega
  refine LoopVC.mk (fun n env hs => ∃ (t : Nat) (x : Int) (p : S8) (b cap : Nat) (r : List Value) (fr : Nat × Nat), x = t ∧ t + n = 64 ∧ S8.rounds (ks.drop t) (ws.drop t) p = S8.rounds ks ws s ∧ Soft fr (8 + r.length) ∧ cap = 8 + r.length ∧
    env = [(0, .slice (some sa) 8 c), (6, .pointer (some ⟨b6, 0, none⟩)), (7, .pointer (some ⟨b7, 0, none⟩)), (12, .slice (some ⟨b, 0, none⟩) 8 cap), (13, .int .i64 x)] ∧
    hs = [⟨b, w32 p.a :: w32 p.b :: w32 p.c :: w32 p.d :: w32 p.e :: w32 p.f :: w32 p.g :: w32 p.h :: r, 151, fr⟩, ⟨b7, ws.map w32, 237, (0, 0)⟩, ⟨b6, ks.map w32, 237, (0, 0)⟩]) 64
    (Weak.mk (Sub.cons rfl (Sub.cons rfl (Sub.cons rfl (Sub.cons rfl (Sub.cons rfl Sub.nil))))) (by simp; exact List.Sublist.refl _) ⟨0, 0, s, b12, _, r12, fr12, rfl, rfl, rfl, by rw [← hl8]; exact hf12, hl8, rfl, rfl⟩) ?_
  rintro n env hs ⟨t, _, p, b, _, r, fr, rfl, ht, hr, hf, rfl, rfl, rfl⟩
  repeat' ((try (conv => whnf)); (first | refine Pick.mk _ (cell_w (by repeat (first | exact List.Mem.head _ | refine List.Mem.tail _ ?_)) (by omega)) ?_ | refine QuietVC.val (fun w _ => turns_v _ _ _ _ (by omega) (by omega) (by omega) (by omega) (by omega) (by omega) (by omega) w) ?_ | refine Pick.mk _ (add_u32 _ _) ?_ | refine Pick.mk _ (not_u32 _) ?_ | refine Pick.mk _ (xor_u32 _ _) ?_ | refine Pick.mk _ (or_u32 _ _) ?_ | refine Pick.mk _ (and_u32 _ _) ?_ | refine Pick.mk pl150_13 (by decide +kernel) ?_ | refine Pick.mk pl150_20 (by decide +kernel) ?_ | refine Pick.mk pl150_21 (by decide +kernel) ?_ | refine Pick.mk pl150_22 (by decide +kernel) ?_ | refine Pick.mk pl150_26 (by decide +kernel) ?_ | refine Need.au ?_ | (refine Split.mk (fun hsplit => ?_) (fun hsplit => ?_) <;> (try simp only [List.cons.injEq, and_true, true_and, not_true_eq_false, not_false_eq_true] at hsplit) <;> try (exfalso; omega)) | refine Pick.au ?_ | refine store_au ?_ | refine Any.mk (fun _ => ?_) | refine Both.mk ?_ ?_)); all_goals (try (conv => whnf))
  · refine again (n - 1) (by omega) (Sub.cons rfl (Sub.cons rfl (Sub.cons rfl (Sub.cons rfl (Sub.cons rfl Sub.nil))))) (List.Sublist.cons_cons _ (List.Sublist.cons _ (List.Sublist.refl _))) ⟨t + 1, _, p.round (ks.getD t 0) (ws.getD t 0), _, _, [], (0, 0), by omega, by omega, ?_, soft0, rfl, rfl, ?_⟩
    · rw [← rounds_step _ _ _ _ (by omega) (by omega), hr]
    · rw [S8.round, ch_eq, maj_eq]
      rfl
  obtain rfl : t = 64 := by omega
  have hr : p = S8.rounds ks ws s := by
    rw [List.drop_eq_nil_of_le (by omega), S8.rounds] at hr
    · exact hr
    · intros; simp_all
  subst hr
  obtain ⟨p, hp⟩ : ∃ p, p = S8.rounds ks ws s := ⟨_, rfl⟩
  rw [← hp, ← sumTo_list]
  clear hp ht hwl
  have hpn : p.list.length = 8 := rfl
  refine LoopVC.mk (fun n env hs => ∃ (i : Nat) (x : Int) (cs : List Value), x = i ∧ i + n = 8 ∧ cs = (sumTo p.list s.list i).map w32 ++ r ∧
    env = [(0, .slice (some sa) 8 c), (12, .slice (some ⟨b, 0, none⟩) 8 (8 + r.length)), (18, .int .i64 x)] ∧ hs = [⟨b, cs, 151, fr⟩]) 8
    (Weak.mk (Sub.cons rfl (Sub.cons rfl (Sub.cons rfl Sub.nil))) (List.Sublist.cons_cons _ (List.nil_sublist _)) ⟨0, 0, _, rfl, rfl, by rw [sumTo_zero]; rfl, rfl, rfl⟩) ?_
  rintro n env hs ⟨i, _, _, rfl, hi, rfl, rfl, rfl⟩
  have hsl : (sumTo p.list s.list i).length = 8 := sumTo_len _ _ _
  repeat' ((try (conv => whnf)); (first | refine Pick.mk _ (cell_wr (by repeat (first | exact List.Mem.head _ | refine List.Mem.tail _ ?_)) (by omega)) ?_ | refine Pick.mk _ (word_arg ‹_› (by simp) (by omega)) ?_ | refine Pick.mk _ (add_u32 _ _) ?_ | refine store_el (by repeat (first | exact Upd.head _ | apply Upd.tail)) (by simpa [hsl] using hf) rfl (by simp [hsl]; omega) ?_ | refine Pick.mk pl150_13 (by decide +kernel) ?_ | refine Pick.mk pl150_20 (by decide +kernel) ?_ | refine Pick.mk pl150_21 (by decide +kernel) ?_ | refine Pick.mk pl150_22 (by decide +kernel) ?_ | refine Pick.mk pl150_26 (by decide +kernel) ?_ | refine Need.au ?_ | (refine Split.mk (fun hsplit => ?_) (fun hsplit => ?_) <;> (try simp only [List.cons.injEq, and_true, true_and, not_true_eq_false, not_false_eq_true] at hsplit) <;> try (exfalso; omega)) | refine Pick.au ?_ | refine store_au ?_ | refine Any.mk (fun _ => ?_) | refine Both.mk ?_ ?_)); all_goals (try (conv => whnf))
  · refine again (n - 1) (by omega) (Sub.cons rfl (Sub.cons rfl (Sub.cons rfl Sub.nil))) (List.Sublist.refl _) ⟨i + 1, _, _, by omega, by omega, ?_, rfl, rfl⟩
    rw [Int.toNat_natCast, List.set_append_left _ _ (by simp [hsl]; omega), sumTo_get _ _ _ (by omega)]
    exact congrArg (· ++ r) ((map_set w32 _ i _).trans (congrArg _ (sumTo_set _ _ _ (by omega))))
  · obtain rfl : i = 8 := by omega
    exact Done.mk ⟨_, rfl, Gives.mk (by repeat (first | exact List.Mem.head _ | refine List.Mem.tail _ ?_)) (by simp [hsl]) (by simp [hsl]) (by simpa [hsl] using hf)⟩
end Go.Proofs.YtnlheljpagpiiaaGreat
