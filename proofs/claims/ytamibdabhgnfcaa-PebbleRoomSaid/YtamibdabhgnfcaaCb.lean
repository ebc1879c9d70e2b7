/-
  So many steps back, in the program and in the document; every input.
-/
import Derived.Test.YtamibdabhgnfcaaCa
set_option linter.unusedVariables false
set_option linter.unusedSimpArgs false
set_option maxRecDepth 100000
set_option maxHeartbeats 8000000
namespace Go.Proofs.Ytamibdabhgnfcaa
open Go
attribute [local irreducible] bitsOf shlOf shrOf
theorem wpIn_scope {P : Program} {c : Code} {Q : Exit → Act → World → Prop} {a : Act} {w : World} (h : c.wpIn (FR none) 0 P (Exit.noGoto Q) a w) : (Code.scope c).wpIn (FR none) 0 P Q a w :=
  wpIn_wide.2 (wp_scope_straight (wpIn_wide.1 h))
theorem St.add {G : Cx} {hs : Hp} {w : World} (h : St G hs w) {b : Nat} {cs : List Value} {t : TypeId} {fr : Nat × Nat} (ho : w.heap[b]? = some (.cells cs.toArray t fr)) (hn : G.w0.heap.size ≤ b) (hd : b ∉ ids hs) : St G (⟨b, cs, t, fr⟩ :: hs) w := by
  refine ⟨h.os, h.tape, h.output, h.size, h.old, ?_, ?_, ?_⟩
  · intro e he
    rcases List.mem_cons.1 he with rfl | he
    · exact ho
    · exact h.own e he
  · exact List.nodup_cons.2 ⟨hd, h.nodup⟩
  · intro e he
    rcases List.mem_cons.1 he with rfl | he
    · exact .inl hn
    · exact h.new e he
theorem ids_lt {G : Cx} {hs : Hp} {w : World} (h : St G hs w) : ∀ b ∈ ids hs, b < w.heap.size := by
  intro b hm
  obtain ⟨e, he, rfl⟩ := List.mem_map.1 hm
  exact h.lt he
/-- Back's answer. -/
def backOf (key : List B8) (n : Int) : List B8 × Int := if key.length = 16 ∧ 0 ≤ n ∧ n ≤ 256 then (stepN key n.toNat, 0) else ([], 1)
theorem goback_r (A : Option Addr) (key : List B8) (ck : Nat) (n : Int) (hck : key.length ≤ ck) (w : World) (hA : At w A (key.map b8)) :
    Ret Try.prog 18 [.slice A key.length ck, .int .i64 n] w (GivesX (backOf key n).1 (backOf key n).2) := by
  unfold backOf
  by_cases hc : key.length = 16 ∧ 0 ≤ n ∧ n ≤ 256
  · rw [if_pos hc]
    obtain ⟨hlen, hn0, hn1⟩ := hc
    refine ret_marks Try.func18 rfl rfl ?_
    intro a hf hw
    refine chain_sound tab_ok 1 _ _ [] _ _ (K := fun env hs => Done (∃ bn, Sub [(0, .slice A key.length ck), (3, .pointer (some ⟨bn, 0, none⟩))] env ∧ List.Sublist [⟨bn, [.int .i64 n], 3, (0, 0)⟩] hs)) (X := fun _ _ _ => False) (R := fun _ _ => False) ?_ ?_ (fun _ _ _ _ _ h => h.elim) (fun _ _ _ _ h => h.elim) hf hw
    · repeat' ((try (conv => whnf)); (first | refine Need.mk (by omega) ?_ | refine Need.mk (by decide +kernel) ?_ | refine Need.mk (by rfl) ?_ | refine Need.mk ⟨rfl, Nat.le_of_ble_eq_true rfl⟩ ?_ | (refine Split.mk (fun hsplit => ?_) (fun hsplit => ?_) <;> (try simp only [List.cons.injEq, and_true, true_and, not_true_eq_false, not_false_eq_true] at hsplit) <;> try (exfalso; omega)) | refine Pick.mk _ (fit_i64 (by omega) (by omega)) ?_ | refine Pick.mk _ (fit_u64 (by omega) (by omega)) ?_ | refine Pick.mk _ (fit_u32 (by omega) (by omega)) ?_ | refine Pick.mk _ (fit_u8 (by omega) (by omega)) ?_ | refine Pick.mk _ (quo_i64 (by omega) (by omega) (by omega)) ?_ | refine Pick.mk _ (rem_pos (by omega)) ?_ | refine Pick.mk _ (cellIs_at (by repeat (first | exact List.Mem.head _ | refine List.Mem.tail _ ?_)) rfl) ?_ | refine Pick.mk _ (cellIs_old (by assumption) (by simp)) ?_ | refine Pick.mk _ (pick_whole (by repeat (first | exact List.Mem.head _ | refine List.Mem.tail _ ?_)) (by rfl)) ?_ | refine Pick.mk _ (pick_part (by repeat (first | exact List.Mem.head _ | refine List.Mem.tail _ ?_)) (by rfl)) ?_ | refine store_at (by repeat (first | exact Upd.head _ | apply Upd.tail)) soft0 (by rfl) (by rfl) ?_ | refine Any.mk (fun _ => ?_) | refine Need.mk (List.Sublist.cons _ (List.Sublist.refl _)) ?_ | refine Need.mk (List.Sublist.refl _) ?_ | refine Both.mk ?_ ?_)); all_goals (try (conv => whnf))
      exact Done.mk ⟨_, Sub.cons rfl (Sub.cons rfl Sub.nil), List.Sublist.refl _⟩
    clear hf hw
    intro env hs a w1 hk hf hw1
    obtain ⟨bn, hsub, hsl⟩ := hk.out
    replace hf := hf.sub hsub
    replace hw1 := hw1.sub hsl
    clear hk hsub hsl
    refine wpIn_scope ?_
    refine chain_sound tab_ok 3 _ _ _ _ _ (K := fun env hs => Done (∃ bo, Sub [(0, .slice A key.length ck), (3, .pointer (some ⟨bn, 0, none⟩)), (6, .pointer (some ⟨bo, 0, none⟩))] env ∧ List.Sublist [⟨bo, [.slice none 0 0], 22, (0, 0)⟩, ⟨bn, [.int .i64 n], 3, (0, 0)⟩] hs)) (X := fun _ _ _ => False) (R := fun _ _ => False) ?_ ?_ (fun _ _ _ _ _ h => h.elim) (fun _ _ _ _ h => h.elim) hf hw1
    · repeat' ((try (conv => whnf)); (first | refine Need.mk (by omega) ?_ | refine Need.mk (by decide +kernel) ?_ | refine Need.mk (by rfl) ?_ | refine Need.mk ⟨rfl, Nat.le_of_ble_eq_true rfl⟩ ?_ | (refine Split.mk (fun hsplit => ?_) (fun hsplit => ?_) <;> (try simp only [List.cons.injEq, and_true, true_and, not_true_eq_false, not_false_eq_true] at hsplit) <;> try (exfalso; omega)) | refine Pick.mk _ (fit_i64 (by omega) (by omega)) ?_ | refine Pick.mk _ (fit_u64 (by omega) (by omega)) ?_ | refine Pick.mk _ (fit_u32 (by omega) (by omega)) ?_ | refine Pick.mk _ (fit_u8 (by omega) (by omega)) ?_ | refine Pick.mk _ (quo_i64 (by omega) (by omega) (by omega)) ?_ | refine Pick.mk _ (rem_pos (by omega)) ?_ | refine Pick.mk _ (cellIs_at (by repeat (first | exact List.Mem.head _ | refine List.Mem.tail _ ?_)) rfl) ?_ | refine Pick.mk _ (cellIs_old (by assumption) (by simp)) ?_ | refine Pick.mk _ (pick_whole (by repeat (first | exact List.Mem.head _ | refine List.Mem.tail _ ?_)) (by rfl)) ?_ | refine Pick.mk _ (pick_part (by repeat (first | exact List.Mem.head _ | refine List.Mem.tail _ ?_)) (by rfl)) ?_ | refine store_at (by repeat (first | exact Upd.head _ | apply Upd.tail)) soft0 (by rfl) (by rfl) ?_ | refine Any.mk (fun _ => ?_) | refine Need.mk (List.Sublist.cons _ (List.Sublist.refl _)) ?_ | refine Need.mk (List.Sublist.refl _) ?_ | refine Both.mk ?_ ?_)); all_goals (try (conv => whnf))
      exact Done.mk ⟨_, Sub.cons rfl (Sub.cons rfl (Sub.cons rfl Sub.nil)), List.Sublist.refl _⟩
    clear hf hw1
    intro env hs a w1 hk hf hw1
    obtain ⟨bo, hsub, hsl⟩ := hk.out
    replace hf := hf.sub hsub
    replace hw1 := hw1.sub hsl
    clear hk hsub hsl
    refine wpIn_seq ?_
    refine chain_sound tab_ok 1 _ _ _ _ _ (K := fun env hs => Done (∃ b1, Sub [(3, .pointer (some ⟨bn, 0, none⟩)), (6, .pointer (some ⟨bo, 0, none⟩)), (21, .func (.func 42) #[] #[.pointer (some ⟨b1, 0, none⟩)])] env ∧
      List.Sublist ([⟨b1, [.slice A key.length ck], 22, (0, 0)⟩] ++ [⟨bo, [.slice none 0 0], 22, (0, 0)⟩, ⟨bn, [.int .i64 n], 3, (0, 0)⟩]) hs)) (X := fun _ _ _ => False) (R := fun _ _ => False) ?_ ?_ (fun _ _ _ _ _ h => h.elim) (fun _ _ _ _ h => h.elim) hf hw1
    · repeat' ((try (conv => whnf)); (first | refine CallVC.of (fun w2 h2 => back_r A key.length ck w2) ?_ | rintro _ _ ⟨b1, rfl, rfl⟩ | refine Need.mk (by omega) ?_ | refine Need.mk (by decide +kernel) ?_ | refine Need.mk (by rfl) ?_ | refine Need.mk ⟨rfl, Nat.le_of_ble_eq_true rfl⟩ ?_ | (refine Split.mk (fun hsplit => ?_) (fun hsplit => ?_) <;> (try simp only [List.cons.injEq, and_true, true_and, not_true_eq_false, not_false_eq_true] at hsplit) <;> try (exfalso; omega)) | refine Pick.mk _ (fit_i64 (by omega) (by omega)) ?_ | refine Pick.mk _ (fit_u64 (by omega) (by omega)) ?_ | refine Pick.mk _ (fit_u32 (by omega) (by omega)) ?_ | refine Pick.mk _ (fit_u8 (by omega) (by omega)) ?_ | refine Pick.mk _ (quo_i64 (by omega) (by omega) (by omega)) ?_ | refine Pick.mk _ (rem_pos (by omega)) ?_ | refine Pick.mk _ (cellIs_at (by repeat (first | exact List.Mem.head _ | refine List.Mem.tail _ ?_)) rfl) ?_ | refine Pick.mk _ (cellIs_old (by assumption) (by simp)) ?_ | refine Pick.mk _ (pick_whole (by repeat (first | exact List.Mem.head _ | refine List.Mem.tail _ ?_)) (by rfl)) ?_ | refine Pick.mk _ (pick_part (by repeat (first | exact List.Mem.head _ | refine List.Mem.tail _ ?_)) (by rfl)) ?_ | refine store_at (by repeat (first | exact Upd.head _ | apply Upd.tail)) soft0 (by rfl) (by rfl) ?_ | refine Any.mk (fun _ => ?_) | refine Need.mk (List.Sublist.cons _ (List.Sublist.refl _)) ?_ | refine Need.mk (List.Sublist.refl _) ?_ | refine Both.mk ?_ ?_)); all_goals (try (conv => whnf))
      exact Done.mk ⟨b1, Sub.cons rfl (Sub.cons rfl (Sub.cons rfl Sub.nil)), List.Sublist.refl _⟩
    clear hf hw1
    intro env hs a w2 hk hf hw2
    obtain ⟨b1, hsub, hsl⟩ := hk.out
    replace hf := hf.sub hsub
    have hA2 : At w2 A (key.map b8) := hA.kept (Kept.of hw2) (by simp)
    have hw3 := (hw2.sub hsl).sub (List.sublist_append_right _ _)
    have hh1 : At w2 (some ⟨b1, 0, none⟩) [.slice A key.length ck] := at_ent (List.Mem.head _) (hw2.sub hsl)
    have hlt : ∀ b ∈ [bo, bn], b < w2.heap.size := ids_lt hw3
    have hnb : b1 ∉ [bo, bn] := ids_not hw2 hsl (e := ⟨b1, [.slice A key.length ck], 22, (0, 0)⟩) (List.Mem.head _)
    have hw0 := hw2.size
    clear hk hsub hsl hw2
    refine wpIn_block (rangeFunc_vc tab_ok hf hw3 rfl ?_ (fp := [bo, bn]) (lim := False) (N := n.toNat + 1) (El := keyEl w2.heap.size key)
      (fun i hs _ => i ≤ n.toNat ∧ hs = [⟨bo, [.slice none 0 0], 22, (0, 0)⟩, ⟨bn, [.int .i64 n], 3, (0, 0)⟩])
      (fun c hs W => c = .exit 0 ∧ ∃ b r fr c, c = ((stepN key n.toNat).map b8 ++ r).length ∧ KeyIn w2.heap.size W (stepN key n.toNat) b r fr ∧ hs = [⟨bo, [.slice (some ⟨b, 0, none⟩) 16 c], 22, (0, 0)⟩, ⟨bn, [.int .i64 n], 3, (0, 0)⟩])
      (fun _ hs A h => by have := h.1; omega) (fun _ _ _ _ h _ => h) ?_ ?_ ?_ ?_ ?_ ?_ ?_ (fun vs => [(3, .pointer (some ⟨bn, 0, none⟩)), (6, .pointer (some ⟨bo, 0, none⟩)), (7, vs.getD 0 undef), (8, vs.getD 1 undef)]) ?_ ?_ ?_ ?_)
    · exact fun args w => callFunc_run (tab_ok.fns _ (by rfl))
    · rintro c hs C D ⟨rfl, b, r, fr, c, hc, hk, rfl⟩ hkk
      exact ⟨rfl, b, r, fr, c, hc, hk.kept hkk (by simp), rfl⟩
    · rintro i hs A ⟨_, rfl⟩ b hm
      exact hm
    · rintro i C D vs ⟨b, r, fr, c, rfl, hc, hk⟩ hkk
      exact ⟨b, r, fr, c, rfl, hc, hk.kept hkk (by simp)⟩
    · rintro i C vs ⟨b, r, fr, c, rfl, _⟩
      rfl
    · intro p hp
      have : p = 22 ∨ p = 23 := by simpa using hp
      rcases this with rfl | rfl <;> decide
    · exact ⟨Nat.zero_le _, rfl⟩
    · intro W1 hk hst hsz
      exact back_iter [bo, bn] w2.heap.size b1 A key ck _ (by omega) hlen hck W1 hsz ⟨hh1.kept hk (by simp), hA2.kept hk (by simp), hlt⟩
    · rintro i C vs ⟨b, r, fr, c, rfl, hc, hk⟩
      repeat' ((try (conv => whnf)); (first | refine Need.mk (by omega) ?_ | refine Need.mk (by decide +kernel) ?_ | refine Need.mk (by rfl) ?_ | refine Need.mk ⟨rfl, Nat.le_of_ble_eq_true rfl⟩ ?_ | (refine Split.mk (fun hsplit => ?_) (fun hsplit => ?_) <;> (try simp only [List.cons.injEq, and_true, true_and, not_true_eq_false, not_false_eq_true] at hsplit) <;> try (exfalso; omega)) | refine Pick.mk _ (fit_i64 (by omega) (by omega)) ?_ | refine Pick.mk _ (fit_u64 (by omega) (by omega)) ?_ | refine Pick.mk _ (fit_u32 (by omega) (by omega)) ?_ | refine Pick.mk _ (fit_u8 (by omega) (by omega)) ?_ | refine Pick.mk _ (quo_i64 (by omega) (by omega) (by omega)) ?_ | refine Pick.mk _ (rem_pos (by omega)) ?_ | refine Pick.mk _ (cellIs_at (by repeat (first | exact List.Mem.head _ | refine List.Mem.tail _ ?_)) rfl) ?_ | refine Pick.mk _ (cellIs_old (by assumption) (by simp)) ?_ | refine Pick.mk _ (pick_whole (by repeat (first | exact List.Mem.head _ | refine List.Mem.tail _ ?_)) (by rfl)) ?_ | refine Pick.mk _ (pick_part (by repeat (first | exact List.Mem.head _ | refine List.Mem.tail _ ?_)) (by rfl)) ?_ | refine store_at (by repeat (first | exact Upd.head _ | apply Upd.tail)) soft0 (by rfl) (by rfl) ?_ | refine Any.mk (fun _ => ?_) | refine Need.mk (List.Sublist.cons _ (List.Sublist.refl _)) ?_ | refine Need.mk (List.Sublist.refl _) ?_ | refine Both.mk ?_ ?_)); all_goals (try (conv => whnf))
      exact Done.mk (Sub.cons rfl (Sub.cons rfl (Sub.cons rfl (Sub.cons rfl Sub.nil))))
    · rintro i C vs hs hi ⟨hin, rfl⟩ hst ⟨b, r, fr, c, rfl, hc, hk⟩
      repeat' ((try (conv => whnf)); (first | refine Need.mk (by omega) ?_ | refine Need.mk (by decide +kernel) ?_ | refine Need.mk (by rfl) ?_ | refine Need.mk ⟨rfl, Nat.le_of_ble_eq_true rfl⟩ ?_ | (refine Split.mk (fun hsplit => ?_) (fun hsplit => ?_) <;> (try simp only [List.cons.injEq, and_true, true_and, not_true_eq_false, not_false_eq_true] at hsplit) <;> try (exfalso; omega)) | refine Pick.mk _ (fit_i64 (by omega) (by omega)) ?_ | refine Pick.mk _ (fit_u64 (by omega) (by omega)) ?_ | refine Pick.mk _ (fit_u32 (by omega) (by omega)) ?_ | refine Pick.mk _ (fit_u8 (by omega) (by omega)) ?_ | refine Pick.mk _ (quo_i64 (by omega) (by omega) (by omega)) ?_ | refine Pick.mk _ (rem_pos (by omega)) ?_ | refine Pick.mk _ (cellIs_at (by repeat (first | exact List.Mem.head _ | refine List.Mem.tail _ ?_)) rfl) ?_ | refine Pick.mk _ (cellIs_old (by assumption) (by simp)) ?_ | refine Pick.mk _ (pick_whole (by repeat (first | exact List.Mem.head _ | refine List.Mem.tail _ ?_)) (by rfl)) ?_ | refine Pick.mk _ (pick_part (by repeat (first | exact List.Mem.head _ | refine List.Mem.tail _ ?_)) (by rfl)) ?_ | refine store_at (by repeat (first | exact Upd.head _ | apply Upd.tail)) soft0 (by rfl) (by rfl) ?_ | refine Any.mk (fun _ => ?_) | refine Need.mk (List.Sublist.cons _ (List.Sublist.refl _)) ?_ | refine Need.mk (List.Sublist.refl _) ?_ | refine Both.mk ?_ ?_)); all_goals (try (conv => whnf))
      · obtain rfl : i = n.toNat := by omega
        exact Done.mk fun B hkk => ⟨rfl, b, r, fr, c, hc, hk.kept hkk hlt, rfl⟩
      · exact Done.mk fun B hkk => ⟨by omega, rfl⟩
    · rintro D W hs a' ⟨h, _⟩
      omega
    · rintro D c W hs a' ⟨rfl, b, r, fr, c, hc, hk, rfl⟩ hst hD hn2 hf'
      refine wpIn_exit ?_
      dsimp only [Exit.inBlock]
      rw [if_pos rfl]
      have hst2 := hst.add (b := b) (cs := (stepN key n.toNat).map b8 ++ r) hk.own (Nat.le_trans hw0 hk.new) (fun hm => by have := hlt b hm; have := hk.new; omega)
      refine wpIn_mono (behind_vc (K := fun v hs => GivesX (stepN key n.toNat) 0 v hs) tab_ok rfl hf' hst2 hD hn2 ?_) (fun e a w h => by cases e <;> first | exact h | exact h.elim)
      repeat' ((try (conv => whnf)); (first | refine Need.mk (by omega) ?_ | refine Need.mk (by decide +kernel) ?_ | refine Need.mk (by rfl) ?_ | refine Need.mk ⟨rfl, Nat.le_of_ble_eq_true rfl⟩ ?_ | (refine Split.mk (fun hsplit => ?_) (fun hsplit => ?_) <;> (try simp only [List.cons.injEq, and_true, true_and, not_true_eq_false, not_false_eq_true] at hsplit) <;> try (exfalso; omega)) | refine Pick.mk _ (fit_i64 (by omega) (by omega)) ?_ | refine Pick.mk _ (fit_u64 (by omega) (by omega)) ?_ | refine Pick.mk _ (fit_u32 (by omega) (by omega)) ?_ | refine Pick.mk _ (fit_u8 (by omega) (by omega)) ?_ | refine Pick.mk _ (quo_i64 (by omega) (by omega) (by omega)) ?_ | refine Pick.mk _ (rem_pos (by omega)) ?_ | refine Pick.mk _ (cellIs_at (by repeat (first | exact List.Mem.head _ | refine List.Mem.tail _ ?_)) rfl) ?_ | refine Pick.mk _ (cellIs_old (by assumption) (by simp)) ?_ | refine Pick.mk _ (pick_whole (by repeat (first | exact List.Mem.head _ | refine List.Mem.tail _ ?_)) (by rfl)) ?_ | refine Pick.mk _ (pick_part (by repeat (first | exact List.Mem.head _ | refine List.Mem.tail _ ?_)) (by rfl)) ?_ | refine store_at (by repeat (first | exact Upd.head _ | apply Upd.tail)) soft0 (by rfl) (by rfl) ?_ | refine Any.mk (fun _ => ?_) | refine Need.mk (List.Sublist.cons _ (List.Sublist.refl _)) ?_ | refine Need.mk (List.Sublist.refl _) ?_ | refine Both.mk ?_ ?_)); all_goals (try (conv => whnf))
      have hl16 := stepN_len hlen n.toNat
      refine Done.mk ⟨_, _, _, ?_, ?_, Own.row b (stepN key n.toNat) r fr hk.soft, List.Sublist.cons_cons _ (List.nil_sublist _)⟩
      · rw [hl16, ← hc]; rfl
      · rw [List.length_append, List.length_map]; omega
  · rw [if_neg hc]
    refine ret_marks Try.func18 rfl rfl ?_
    intro a hf hw
    refine chain_sound tab_ok 1 _ _ [] _ _ (K := fun env hs => Done (∃ bn, Sub [(0, .slice A key.length ck), (3, .pointer (some ⟨bn, 0, none⟩))] env ∧ List.Sublist [⟨bn, [.int .i64 n], 3, (0, 0)⟩] hs)) (X := fun _ _ _ => False) (R := fun _ _ => False) ?_ ?_ (fun _ _ _ _ _ h => h.elim) (fun _ _ _ _ h => h.elim) hf hw
    · repeat' ((try (conv => whnf)); (first | refine Need.mk (by omega) ?_ | refine Need.mk (by decide +kernel) ?_ | refine Need.mk (by rfl) ?_ | refine Need.mk ⟨rfl, Nat.le_of_ble_eq_true rfl⟩ ?_ | (refine Split.mk (fun hsplit => ?_) (fun hsplit => ?_) <;> (try simp only [List.cons.injEq, and_true, true_and, not_true_eq_false, not_false_eq_true] at hsplit) <;> try (exfalso; omega)) | refine Pick.mk _ (fit_i64 (by omega) (by omega)) ?_ | refine Pick.mk _ (fit_u64 (by omega) (by omega)) ?_ | refine Pick.mk _ (fit_u32 (by omega) (by omega)) ?_ | refine Pick.mk _ (fit_u8 (by omega) (by omega)) ?_ | refine Pick.mk _ (quo_i64 (by omega) (by omega) (by omega)) ?_ | refine Pick.mk _ (rem_pos (by omega)) ?_ | refine Pick.mk _ (cellIs_at (by repeat (first | exact List.Mem.head _ | refine List.Mem.tail _ ?_)) rfl) ?_ | refine Pick.mk _ (cellIs_old (by assumption) (by simp)) ?_ | refine Pick.mk _ (pick_whole (by repeat (first | exact List.Mem.head _ | refine List.Mem.tail _ ?_)) (by rfl)) ?_ | refine Pick.mk _ (pick_part (by repeat (first | exact List.Mem.head _ | refine List.Mem.tail _ ?_)) (by rfl)) ?_ | refine store_at (by repeat (first | exact Upd.head _ | apply Upd.tail)) soft0 (by rfl) (by rfl) ?_ | refine Any.mk (fun _ => ?_) | refine Need.mk (List.Sublist.cons _ (List.Sublist.refl _)) ?_ | refine Need.mk (List.Sublist.refl _) ?_ | refine Both.mk ?_ ?_)); all_goals (try (conv => whnf))
      exact Done.mk ⟨_, Sub.cons rfl (Sub.cons rfl Sub.nil), List.Sublist.refl _⟩
    clear hf hw
    intro env hs a w1 hk hf hw1
    obtain ⟨bn, hsub, hsl⟩ := hk.out
    refine wpIn_scope ?_
    refine chain_sound tab_ok 1 _ _ _ _ _ (K := fun _ _ => False) (X := fun _ _ _ => False) (R := retK ⟨Try.prog, w, []⟩ tab Try.f18.results.toList fun v hs => Done (GivesX [] 1 v hs)) ?_ (fun _ _ _ _ h => h.elim) (fun _ _ _ _ _ h => h.elim) (fun env hs a w hk hf hw => ahead_ret tab_ok hk hf hw) (hf.sub hsub) (hw1.sub hsl)
    repeat' ((try (conv => whnf)); (first | refine Need.mk (by omega) ?_ | refine Need.mk (by decide +kernel) ?_ | refine Need.mk (by rfl) ?_ | refine Need.mk ⟨rfl, Nat.le_of_ble_eq_true rfl⟩ ?_ | (refine Split.mk (fun hsplit => ?_) (fun hsplit => ?_) <;> (try simp only [List.cons.injEq, and_true, true_and, not_true_eq_false, not_false_eq_true] at hsplit) <;> try (exfalso; omega)) | refine Pick.mk _ (fit_i64 (by omega) (by omega)) ?_ | refine Pick.mk _ (fit_u64 (by omega) (by omega)) ?_ | refine Pick.mk _ (fit_u32 (by omega) (by omega)) ?_ | refine Pick.mk _ (fit_u8 (by omega) (by omega)) ?_ | refine Pick.mk _ (quo_i64 (by omega) (by omega) (by omega)) ?_ | refine Pick.mk _ (rem_pos (by omega)) ?_ | refine Pick.mk _ (cellIs_at (by repeat (first | exact List.Mem.head _ | refine List.Mem.tail _ ?_)) rfl) ?_ | refine Pick.mk _ (cellIs_old (by assumption) (by simp)) ?_ | refine Pick.mk _ (pick_whole (by repeat (first | exact List.Mem.head _ | refine List.Mem.tail _ ?_)) (by rfl)) ?_ | refine Pick.mk _ (pick_part (by repeat (first | exact List.Mem.head _ | refine List.Mem.tail _ ?_)) (by rfl)) ?_ | refine store_at (by repeat (first | exact Upd.head _ | apply Upd.tail)) soft0 (by rfl) (by rfl) ?_ | refine Any.mk (fun _ => ?_) | refine Need.mk (List.Sublist.cons _ (List.Sublist.refl _)) ?_ | refine Need.mk (List.Sublist.refl _) ?_ | refine Both.mk ?_ ?_)); all_goals (try (conv => whnf))
    all_goals exact Done.mk GivesX.no
theorem rgoback_r (A : Option Addr) (key : List B8) (ck : Nat) (n : Int) (hck : key.length ≤ ck) (w : World) (hA : At w A (key.map b8)) :
    Ret Try.prog 19 [.slice A key.length ck, .int .i64 n] w (GivesX (backOf key n).1 (backOf key n).2) := by
  unfold backOf
  by_cases hc : key.length = 16 ∧ 0 ≤ n ∧ n ≤ 256
  · rw [if_pos hc]
    obtain ⟨hlen, hn0, hn1⟩ := hc
    refine ret_vc tab_ok Try.func19 rfl rfl ?_
    repeat' ((try (conv => whnf)); (first | (refine AppendVC.bytes (xs := []) (ys := key) (r := []) tab_ok apb rfl (by repeat (first | exact Take.head _ | apply Take.tail)) soft0 rfl rfl (Holds.at (by simp) hA (by simp)) (by show (2 * (_ + _) + 192) * 1 ≤ _; omega) (fun b5 r5 fr5 hf5 => ?_)) | refine Need.mk (by omega) ?_ | refine Need.mk (by decide +kernel) ?_ | refine Need.mk (by rfl) ?_ | refine Need.mk ⟨rfl, Nat.le_of_ble_eq_true rfl⟩ ?_ | (refine Split.mk (fun hsplit => ?_) (fun hsplit => ?_) <;> (try simp only [List.cons.injEq, and_true, true_and, not_true_eq_false, not_false_eq_true] at hsplit) <;> try (exfalso; omega)) | refine Pick.mk _ (fit_i64 (by omega) (by omega)) ?_ | refine Pick.mk _ (fit_u64 (by omega) (by omega)) ?_ | refine Pick.mk _ (fit_u32 (by omega) (by omega)) ?_ | refine Pick.mk _ (fit_u8 (by omega) (by omega)) ?_ | refine Pick.mk _ (quo_i64 (by omega) (by omega) (by omega)) ?_ | refine Pick.mk _ (rem_pos (by omega)) ?_ | refine Pick.mk _ (cellIs_at (by repeat (first | exact List.Mem.head _ | refine List.Mem.tail _ ?_)) rfl) ?_ | refine Pick.mk _ (cellIs_old (by assumption) (by simp)) ?_ | refine Pick.mk _ (pick_whole (by repeat (first | exact List.Mem.head _ | refine List.Mem.tail _ ?_)) (by rfl)) ?_ | refine Pick.mk _ (pick_part (by repeat (first | exact List.Mem.head _ | refine List.Mem.tail _ ?_)) (by rfl)) ?_ | refine store_at (by repeat (first | exact Upd.head _ | apply Upd.tail)) soft0 (by rfl) (by rfl) ?_ | refine Any.mk (fun _ => ?_) | refine Need.mk (List.Sublist.cons _ (List.Sublist.refl _)) ?_ | refine Need.mk (List.Sublist.refl _) ?_ | refine Both.mk ?_ ?_)); all_goals (try (conv => whnf))
    refine LoopVC.mk (fun m env hs => ∃ (i : Nat) (x : Int) (b : Nat) (r : List Value) (fr : Nat × Nat) (c : Nat), x = i ∧ i + m = n.toNat ∧ c = ((stepN key i).map b8 ++ r).length ∧ Soft fr ((stepN key i).map b8 ++ r).length ∧
      env = [(1, .int .i64 n), (6, .slice (some ⟨b, 0, none⟩) 16 c), (7, .int .i64 x)] ∧ hs = [⟨b, (stepN key i).map b8 ++ r, 5, fr⟩]) n.toNat
      (Weak.mk (Sub.cons rfl (Sub.cons (by have e1 := stepN_len hlen 0; simp [lk, hlen, e1]) (Sub.cons rfl Sub.nil))) (List.Sublist.cons_cons _ (List.nil_sublist _)) ⟨0, 0, b5, r5, fr5, _, rfl, by omega, rfl, hf5, rfl, rfl⟩) ?_
    rintro m env hs ⟨i, _, b, r, fr, c, rfl, hi, hcc, hfr, rfl, rfl⟩
    have hl16 := stepN_len hlen i
    have hl17 := stepN_len hlen (i + 1)
    have hnx := stepN_next hlen i
    repeat' ((try (conv => whnf)); (first | (refine CallVC.givesXP (xs := stepN key (i + 1)) (e := 0) (fun w5 h5 => by have := rstep_r (some ⟨b, 0, none⟩) (stepN key i) c (by rw [hcc, List.length_append, List.length_map]; omega) w5 (at_pre (by repeat (first | exact List.Mem.head _ | refine List.Mem.tail _ ?_)) h5); rw [hnx, hl16] at this; exact this) hl17 (by omega) (fun b6 r6 fr6 c6 hc6 hf6 => ?_)) | refine Need.mk (by omega) ?_ | refine Need.mk (by decide +kernel) ?_ | refine Need.mk (by rfl) ?_ | refine Need.mk ⟨rfl, Nat.le_of_ble_eq_true rfl⟩ ?_ | (refine Split.mk (fun hsplit => ?_) (fun hsplit => ?_) <;> (try simp only [List.cons.injEq, and_true, true_and, not_true_eq_false, not_false_eq_true] at hsplit) <;> try (exfalso; omega)) | refine Pick.mk _ (fit_i64 (by omega) (by omega)) ?_ | refine Pick.mk _ (fit_u64 (by omega) (by omega)) ?_ | refine Pick.mk _ (fit_u32 (by omega) (by omega)) ?_ | refine Pick.mk _ (fit_u8 (by omega) (by omega)) ?_ | refine Pick.mk _ (quo_i64 (by omega) (by omega) (by omega)) ?_ | refine Pick.mk _ (rem_pos (by omega)) ?_ | refine Pick.mk _ (cellIs_at (by repeat (first | exact List.Mem.head _ | refine List.Mem.tail _ ?_)) rfl) ?_ | refine Pick.mk _ (cellIs_old (by assumption) (by simp)) ?_ | refine Pick.mk _ (pick_whole (by repeat (first | exact List.Mem.head _ | refine List.Mem.tail _ ?_)) (by rfl)) ?_ | refine Pick.mk _ (pick_part (by repeat (first | exact List.Mem.head _ | refine List.Mem.tail _ ?_)) (by rfl)) ?_ | refine store_at (by repeat (first | exact Upd.head _ | apply Upd.tail)) soft0 (by rfl) (by rfl) ?_ | refine Any.mk (fun _ => ?_) | refine Need.mk (List.Sublist.cons _ (List.Sublist.refl _)) ?_ | refine Need.mk (List.Sublist.refl _) ?_ | refine Both.mk ?_ ?_)); all_goals (try (conv => whnf))
    · exact again (m - 1) (by omega) (Sub.cons rfl (Sub.cons rfl (Sub.cons rfl Sub.nil))) (List.Sublist.cons_cons _ (List.nil_sublist _)) ⟨i + 1, _, b6, r6, fr6, c6, by omega, by omega, hc6, hf6, rfl, rfl⟩
    · obtain rfl : i = n.toNat := by omega
      refine Done.mk ⟨_, _, _, ?_, ?_, Own.row b (stepN key n.toNat) r fr hfr, List.Sublist.refl _⟩
      · rw [hl16, ← hcc]; rfl
      · show (stepN key n.toNat).length ≤ _
        rw [List.length_append, List.length_map]; omega
  · rw [if_neg hc]
    refine ret_vc tab_ok Try.func19 rfl rfl ?_
    repeat' ((try (conv => whnf)); (first | refine Need.mk (by omega) ?_ | refine Need.mk (by decide +kernel) ?_ | refine Need.mk (by rfl) ?_ | refine Need.mk ⟨rfl, Nat.le_of_ble_eq_true rfl⟩ ?_ | (refine Split.mk (fun hsplit => ?_) (fun hsplit => ?_) <;> (try simp only [List.cons.injEq, and_true, true_and, not_true_eq_false, not_false_eq_true] at hsplit) <;> try (exfalso; omega)) | refine Pick.mk _ (fit_i64 (by omega) (by omega)) ?_ | refine Pick.mk _ (fit_u64 (by omega) (by omega)) ?_ | refine Pick.mk _ (fit_u32 (by omega) (by omega)) ?_ | refine Pick.mk _ (fit_u8 (by omega) (by omega)) ?_ | refine Pick.mk _ (quo_i64 (by omega) (by omega) (by omega)) ?_ | refine Pick.mk _ (rem_pos (by omega)) ?_ | refine Pick.mk _ (cellIs_at (by repeat (first | exact List.Mem.head _ | refine List.Mem.tail _ ?_)) rfl) ?_ | refine Pick.mk _ (cellIs_old (by assumption) (by simp)) ?_ | refine Pick.mk _ (pick_whole (by repeat (first | exact List.Mem.head _ | refine List.Mem.tail _ ?_)) (by rfl)) ?_ | refine Pick.mk _ (pick_part (by repeat (first | exact List.Mem.head _ | refine List.Mem.tail _ ?_)) (by rfl)) ?_ | refine store_at (by repeat (first | exact Upd.head _ | apply Upd.tail)) soft0 (by rfl) (by rfl) ?_ | refine Any.mk (fun _ => ?_) | refine Need.mk (List.Sublist.cons _ (List.Sublist.refl _)) ?_ | refine Need.mk (List.Sublist.refl _) ?_ | refine Both.mk ?_ ?_)); all_goals (try (conv => whnf))
    all_goals exact Done.mk GivesX.no
end Go.Proofs.Ytamibdabhgnfcaa
