/-
  Words put behind bytes; what a digest is in memory; what is left of it, filled up.
-/
import Derived.Test.YtamibdabhgnfcaaSd
import Derived.Test.YtamibdabhgnfcaaMe
set_option linter.unusedVariables false
set_option linter.unusedSimpArgs false
set_option maxRecDepth 100000
set_option maxHeartbeats 4000000
namespace Go.Proofs.Ytamibdabhgnfcaa
open Go
attribute [local irreducible] bitsOf shlOf shrOf

theorem tail8_64 (x : BitVec 64) : tail8 x 8 = put64 x := by
  simp only [tail8, put64, List.range_succ, List.range_zero, List.nil_append, List.cons_append, List.map_cons, List.map_nil]
  rfl
theorem tail8_32 (x : W32) : tail8 (x.setWidth 64) 4 = put32 x := by
  have e : ∀ k : Nat, ((x.setWidth 64) >>> k).setWidth 8 = (x >>> k).setWidth 8 := by
    intro k
    apply BitVec.eq_of_getLsbD_eq
    intro i hi
    simp only [BitVec.getLsbD_setWidth, BitVec.getLsbD_ushiftRight, hi, decide_true, Bool.true_and]
    by_cases h : k + i < 64
    · rw [decide_eq_true h, Bool.true_and]
    · rw [BitVec.getLsbD_of_ge x (k + i) (by omega), Bool.and_false]
  simp only [tail8, put32, List.range_succ, List.range_zero, List.nil_append, List.cons_append, List.map_cons, List.map_nil, e]
  rfl
theorem putlong_r (A : Option Addr) (bs : List B8) (c : Nat) (x : BitVec 64) (hb : bs.length ≤ 90000000) (w : World) (h : At w A (bs.map b8)) :
    Ret Try.prog 47 [.slice A bs.length c, w64 x] w (Gives 5 ((bs ++ put64 x).map b8)) := by
  rw [← tail8_64]
  refine ret_vc tab_ok Try.func47 rfl rfl ?_
  repeat' ((try (conv => whnf)); (first | refine CallVC.givesB (fun w hw => own_r A bs c 8 (by omega) w (h.here hw (fun _ _ => by simp))) (fun b r fr hf => ?_) | refine CallVC.mutGB [_] [] (List.Perm.refl _) (fun w hw hp => spread_m _ bs _ _ x 8 (by omega) (by omega) ‹_› w hp) (fun b2 r2 fr2 hf2 => ?_) | refine Need.mk (by omega) ?_ | refine Need.mk (by decide +kernel) ?_ | refine Need.mk (by rfl) ?_ | refine Need.mk ⟨rfl, Nat.le_of_ble_eq_true rfl⟩ ?_ | (refine Split.mk (fun hsplit => ?_) (fun hsplit => ?_) <;> (try simp only [List.cons.injEq, and_true, true_and, not_true_eq_false, not_false_eq_true] at hsplit) <;> try (exfalso; omega)) | refine Pick.mk _ (fit_i64 (by omega) (by omega)) ?_ | refine Pick.mk _ (fit_u64 (by omega) (by omega)) ?_ | refine Pick.mk _ (fit_u32 (by omega) (by omega)) ?_ | refine Pick.mk _ (fit_u8 (by omega) (by omega)) ?_ | refine Pick.mk _ (quo_i64 (by omega) (by omega) (by omega)) ?_ | refine Pick.mk _ (rem_pos (by omega)) ?_ | refine Pick.mk _ (cellIs_at (by repeat (first | exact List.Mem.head _ | refine List.Mem.tail _ ?_)) rfl) ?_ | refine Pick.mk _ (cellIs_old (by assumption) (by simp)) ?_ | refine Pick.mk _ (pick_whole (by repeat (first | exact List.Mem.head _ | refine List.Mem.tail _ ?_)) (by rfl)) ?_ | refine Pick.mk _ (pick_part (by repeat (first | exact List.Mem.head _ | refine List.Mem.tail _ ?_)) (by rfl)) ?_ | refine store_at (by repeat (first | exact Upd.head _ | apply Upd.tail)) soft0 (by rfl) (by rfl) ?_ | refine Any.mk (fun _ => ?_) | refine Need.mk (List.Sublist.cons _ (List.Sublist.refl _)) ?_ | refine Need.mk (List.Sublist.refl _) ?_ | refine Both.mk ?_ ?_)); all_goals (try (conv => whnf))
  exact Done.mk (Gives.mk (by repeat (first | exact List.Mem.head _ | refine List.Mem.tail _ ?_)) (by rw [List.length_map]) rfl ‹_›)
theorem put_r (A : Option Addr) (bs : List B8) (c : Nat) (la : Addr) (ls : List W32) (c' : Nat) (hb : bs.length + 4 * ls.length ≤ 90000000) (w : World) (h : At w A (bs.map b8)) (hl : At w (some la) (ls.map w32)) :
    Ret Try.prog 79 [.slice A bs.length c, .slice (some la) ls.length c'] w (Gives 5 ((bs ++ (ls.map put32).flatten).map b8)) := by
  refine ret_vc tab_ok Try.func79 rfl rfl ?_
  repeat' ((try (conv => whnf)); (first | refine CallVC.givesB (fun w hw => own_r A bs c (4 * ls.length) (by omega) w (h.here hw (fun _ _ => by simp))) (fun b r fr hf => ?_) | refine Need.mk (by omega) ?_ | refine Need.mk (by decide +kernel) ?_ | refine Need.mk (by rfl) ?_ | refine Need.mk ⟨rfl, Nat.le_of_ble_eq_true rfl⟩ ?_ | (refine Split.mk (fun hsplit => ?_) (fun hsplit => ?_) <;> (try simp only [List.cons.injEq, and_true, true_and, not_true_eq_false, not_false_eq_true] at hsplit) <;> try (exfalso; omega)) | refine Pick.mk _ (fit_i64 (by omega) (by omega)) ?_ | refine Pick.mk _ (fit_u64 (by omega) (by omega)) ?_ | refine Pick.mk _ (fit_u32 (by omega) (by omega)) ?_ | refine Pick.mk _ (fit_u8 (by omega) (by omega)) ?_ | refine Pick.mk _ (quo_i64 (by omega) (by omega) (by omega)) ?_ | refine Pick.mk _ (rem_pos (by omega)) ?_ | refine Pick.mk _ (cellIs_at (by repeat (first | exact List.Mem.head _ | refine List.Mem.tail _ ?_)) rfl) ?_ | refine Pick.mk _ (cellIs_old (by assumption) (by simp)) ?_ | refine Pick.mk _ (pick_whole (by repeat (first | exact List.Mem.head _ | refine List.Mem.tail _ ?_)) (by rfl)) ?_ | refine Pick.mk _ (pick_part (by repeat (first | exact List.Mem.head _ | refine List.Mem.tail _ ?_)) (by rfl)) ?_ | refine store_at (by repeat (first | exact Upd.head _ | apply Upd.tail)) soft0 (by rfl) (by rfl) ?_ | refine Any.mk (fun _ => ?_) | refine Need.mk (List.Sublist.cons _ (List.Sublist.refl _)) ?_ | refine Need.mk (List.Sublist.refl _) ?_ | refine Both.mk ?_ ?_)); all_goals (try (conv => whnf))
  refine LoopVC.mk (fun n env hs => ∃ (i : Nat) (x : Int) (b k cap : Nat) (r : List Value) (fr : Nat × Nat) (xs : List B8), x = i ∧ i + n = ls.length ∧ xs = bs ++ ((ls.take i).map put32).flatten ∧ k = xs.length ∧ cap = (xs.map b8 ++ r).length ∧ Soft fr (xs.map b8 ++ r).length ∧
    env = [(5, .slice (some ⟨b, 0, none⟩) k cap), (13, .slice (some la) ls.length c'), (14, .int .i64 ls.length), (15, .int .i64 x)] ∧ hs = [⟨b, xs.map b8 ++ r, 5, fr⟩]) ls.length
    (Weak.mk (Sub.cons rfl (Sub.cons rfl (Sub.cons rfl (Sub.cons rfl Sub.nil)))) (List.Sublist.refl _) ⟨0, 0, b, _, _, r, fr, bs, rfl, by omega, by simp, rfl, rfl, hf, rfl, rfl⟩) ?_
  rintro n env hs ⟨i, _, b, _, _, r, fr, xs, rfl, hi, hx, rfl, rfl, hf, rfl, rfl⟩
  have hxl : xs.length = bs.length + 4 * i := by rw [hx, List.length_append, puts_len, List.length_take]; omega
  repeat' ((try (conv => whnf)); (first | refine Pick.mk _ (word_arg hl (by simp) (by omega)) ?_ | refine Pick.mk _ (conv32_64 _) ?_ | refine CallVC.mutGB [_] [] (List.Perm.refl _) (fun w hw hp => spread_m _ xs _ _ ((ls.getD (i : Int).toNat 0).setWidth 64) 4 (by omega) (by omega) hf w hp) (fun b2 r2 fr2 hf2 => ?_) | refine Need.mk (by omega) ?_ | refine Need.mk (by decide +kernel) ?_ | refine Need.mk (by rfl) ?_ | refine Need.mk ⟨rfl, Nat.le_of_ble_eq_true rfl⟩ ?_ | (refine Split.mk (fun hsplit => ?_) (fun hsplit => ?_) <;> (try simp only [List.cons.injEq, and_true, true_and, not_true_eq_false, not_false_eq_true] at hsplit) <;> try (exfalso; omega)) | refine Pick.mk _ (fit_i64 (by omega) (by omega)) ?_ | refine Pick.mk _ (fit_u64 (by omega) (by omega)) ?_ | refine Pick.mk _ (fit_u32 (by omega) (by omega)) ?_ | refine Pick.mk _ (fit_u8 (by omega) (by omega)) ?_ | refine Pick.mk _ (quo_i64 (by omega) (by omega) (by omega)) ?_ | refine Pick.mk _ (rem_pos (by omega)) ?_ | refine Pick.mk _ (cellIs_at (by repeat (first | exact List.Mem.head _ | refine List.Mem.tail _ ?_)) rfl) ?_ | refine Pick.mk _ (cellIs_old (by assumption) (by simp)) ?_ | refine Pick.mk _ (pick_whole (by repeat (first | exact List.Mem.head _ | refine List.Mem.tail _ ?_)) (by rfl)) ?_ | refine Pick.mk _ (pick_part (by repeat (first | exact List.Mem.head _ | refine List.Mem.tail _ ?_)) (by rfl)) ?_ | refine store_at (by repeat (first | exact Upd.head _ | apply Upd.tail)) soft0 (by rfl) (by rfl) ?_ | refine Any.mk (fun _ => ?_) | refine Need.mk (List.Sublist.cons _ (List.Sublist.refl _)) ?_ | refine Need.mk (List.Sublist.refl _) ?_ | refine Both.mk ?_ ?_)); all_goals (try (conv => whnf))
  · refine again (n - 1) (by omega) (Sub.cons rfl (Sub.cons rfl (Sub.cons rfl (Sub.cons rfl Sub.nil)))) (by repeat (first | exact List.Sublist.refl _ | exact List.nil_sublist _ | refine List.Sublist.cons_cons _ ?_ | refine List.Sublist.cons _ ?_)) ⟨i + 1, _, _, _, _, _, _, _, by omega, by omega, ?_, rfl, rfl, ‹_›, rfl, rfl⟩
    rw [tail8_32, puts_step _ _ (by omega), ← List.append_assoc, ← hx, Int.toNat_natCast]
  · obtain rfl : i = ls.length := by omega
    refine Done.mk ?_
    rw [List.take_length] at hx
    subst hx
    exact Gives.mk (by repeat (first | exact List.Mem.head _ | refine List.Mem.tail _ ?_)) (by rw [List.length_map]) rfl hf
end Go.Proofs.Ytamibdabhgnfcaa
