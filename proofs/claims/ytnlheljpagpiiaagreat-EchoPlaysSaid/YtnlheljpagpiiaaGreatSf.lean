/-
  A digest that goes on, in the program: at first, whether it was made, what is left filled up, its sum; every input.
-/
import Derived.Test.YtnlheljpagpiiaaGreatMm
import Derived.Test.YtnlheljpagpiiaaGreatMe
set_option linter.unusedVariables false
set_option linter.unusedSimpArgs false
set_option maxRecDepth 100000
set_option maxHeartbeats 4000000
namespace Go.Proofs.YtnlheljpagpiiaaGreat
open Go
attribute [local irreducible] bitsOf shlOf shrOf

/-- A digest's cells: the state, what is left, how many bytes. -/
def digC (s : S8) (left : Value) (n : Nat) : List Value := [w32 s.a, w32 s.b, w32 s.c, w32 s.d, w32 s.e, w32 s.f, w32 s.g, w32 s.h, left, .int .i64 n, .bool true]
theorem digC_noB (s : S8) (A : Option Addr) (k c n : Nat) : ∀ y ∈ digC s (.slice A k c) n, ∀ x : B8, y ≠ b8 x := by
  intro y hy x
  simp only [digC, List.mem_cons, List.not_mem_nil, or_false] at hy
  rcases hy with rfl | rfl | rfl | rfl | rfl | rfl | rfl | rfl | rfl | rfl | rfl <;> (intro h; cases h)
theorem none_v (p : Nat) (s : S8) (left : Value) (n : Nat) (w : World) (h : At w (some ⟨p, 0, none⟩) (digC s left n)) : Val Tryz.prog 162 [.pointer (some ⟨p, 0, none⟩)] w (.bool false) := by
  refine val_vc tab_ok Tryz.func162 rfl rfl ?_
  repeat' ((try (conv => whnf)); (first | refine Pick.mk _ (cell_known h (by simp) rfl) ?_ | refine Need.au ?_ | (refine Split.mk (fun hsplit => ?_) (fun hsplit => ?_) <;> (try simp only [List.cons.injEq, and_true, true_and, not_true_eq_false, not_false_eq_true] at hsplit) <;> try (exfalso; omega)) | refine Pick.au ?_ | refine store_au ?_ | refine Any.mk (fun _ => ?_) | refine Both.mk ?_ ?_)); all_goals (try (conv => whnf))
  all_goals first | exact Done.mk rfl | (exfalso; contradiction)
theorem new_r (w : World) : Ret Tryz.prog 142 [] w fun v hs => ∃ p, v = .pointer (some ⟨p, 0, none⟩) ∧ (⟨p, digC S8.begin (.slice none 0 0) 0, 236, (0, 0)⟩ : Ent) ∈ hs := by
  refine ret_vc tab_ok Tryz.func142 rfl rfl ?_
  repeat' ((try (conv => whnf)); (first | refine CallVC.val (fun w hw => begin_v w) ?_ | refine Need.au ?_ | (refine Split.mk (fun hsplit => ?_) (fun hsplit => ?_) <;> (try simp only [List.cons.injEq, and_true, true_and, not_true_eq_false, not_false_eq_true] at hsplit) <;> try (exfalso; omega)) | refine Pick.au ?_ | refine store_au ?_ | refine Any.mk (fun _ => ?_) | refine Both.mk ?_ ?_)); all_goals (try (conv => whnf))
  exact Done.mk ⟨_, rfl, by repeat (first | exact List.Mem.head _ | refine List.Mem.tail _ ?_)⟩
theorem filled_r (p : Nat) (s : S8) (A : Option Addr) (l : List B8) (c n : Nat) (hl : l.length < 64) (hn : n ≤ 2000000) (w : World) (h : At w (some ⟨p, 0, none⟩) (digC s (.slice A l.length c) n)) (hb : At w A (l.map b8)) :
    Ret Tryz.prog 165 [.pointer (some ⟨p, 0, none⟩)] w (Gives 5 ((fill l n).map b8)) := by
  refine ret_vc tab_ok Tryz.func165 rfl rfl ?_
  repeat' ((try (conv => whnf)); (first | refine Pick.mk _ (cell_known h (by simp) rfl) ?_ | (refine AppendVC.nil tab_ok apb (Holds.at (by simp) hb (by simp)) (by show (2 * _ + 192) * 1 ≤ _; omega) (fun h0 => ?_) (fun h0 b1 c1 hc1 => ?_)) | (refine AppendVC.nil tab_ok apb (Holds.own (xs := [b8 0x80]) (by repeat (first | exact List.Mem.head _ | refine List.Mem.tail _ ?_)) 0 rfl rfl) (by decide) (fun h0 => by cases h0) (fun _ b2 c2 hc2 => ?_)) | (refine AppendVC.bytes (xs := l) (ys := [0x80]) tab_ok apb rfl (by repeat (first | exact Take.head _ | apply Take.tail)) soft0 (by rw [List.length_append, List.length_map, zerosL_len]; omega) rfl (Holds.own (by repeat (first | exact List.Mem.head _ | refine List.Mem.tail _ ?_)) 0 rfl rfl) (by show (2 * (_ + 1) + 192) * 1 ≤ _; omega) (fun b5 r5 fr5 hf5 => ?_)) | refine Need.au ?_ | (refine Split.mk (fun hsplit => ?_) (fun hsplit => ?_) <;> (try simp only [List.cons.injEq, and_true, true_and, not_true_eq_false, not_false_eq_true] at hsplit) <;> try (exfalso; omega)) | refine Pick.au ?_ | refine store_au ?_ | refine Any.mk (fun _ => ?_) | refine Both.mk ?_ ?_)); all_goals (try (conv => whnf))
  · have hl0 : l = [] := List.eq_nil_of_length_eq_zero h0
    refine LoopVC.mk (fun m env hs => ∃ (j b k cap : Nat) (r : List Value) (fr : Nat × Nat) (xs : List B8), j + m = (119 - l.length % 64) % 64 ∧ xs = l ++ [0x80] ++ List.replicate j 0 ∧ k = xs.length ∧ cap = (xs.map b8 ++ r).length ∧ Soft fr (xs.map b8 ++ r).length ∧
      env = [(0, .pointer (some ⟨p, 0, none⟩)), (3, .slice (some ⟨b, 0, none⟩) k cap)] ∧ hs = [⟨b, xs.map b8 ++ r, 5, fr⟩]) ((119 - l.length % 64) % 64)
      (Weak.mk (Sub.cons rfl (Sub.cons rfl Sub.nil)) (by repeat (first | exact List.Sublist.refl _ | exact List.nil_sublist _ | refine List.Sublist.cons_cons _ ?_ | refine List.Sublist.cons _ ?_)) ⟨0, _, _, _, _, _, [0x80], by omega, by rw [hl0]; rfl, by simp, ?_, ?_, rfl, rfl⟩) ?_
    · show c2 = ([b8 0x80] ++ zerosL (c2 - 1) ty5.zero).length
      rw [List.length_append, zerosL_len]; simp; omega
    · exact soft0
    rintro m env hs ⟨j, b, _, _, r, fr, xs, hj, hx, rfl, rfl, hf, rfl, rfl⟩
    have hxl : xs.length = l.length + 1 + j := by rw [hx]; simp; omega
    have h8 : ((8 * BitVec.ofNat 64 n).toNat : Int) = 8 * n := by rw [BitVec.toNat_mul, BitVec.toNat_ofNat]; show (((8 * (n % 2 ^ 64)) % 2 ^ 64 : Nat) : Int) = _; omega
    repeat' ((try (conv => whnf)); (first | refine Pick.mk _ (cell_known h (by simp) rfl) ?_ | (refine AppendVC.bytes (ys := [0]) tab_ok apb rfl (by repeat (first | exact Take.head _ | apply Take.tail)) hf rfl rfl (Holds.own (by repeat (first | exact List.Mem.head _ | refine List.Mem.tail _ ?_)) 0 rfl rfl) (by show (2 * (_ + 1) + 192) * 1 ≤ _; omega) (fun b5 r5 fr5 hf5 => ?_)) | refine Pick.mk ((8 * BitVec.ofNat 64 n).toNat : Int) (h8.trans (fit_u64 (by omega) (by omega))) ?_ | refine CallVC.givesB (fun w hw => putlong_r _ xs _ (8 * BitVec.ofNat 64 n) (by omega) w (at_pre (by repeat (first | exact List.Mem.head _ | refine List.Mem.tail _ ?_)) hw)) (fun b r fr hf => ?_) | refine Need.au ?_ | (refine Split.mk (fun hsplit => ?_) (fun hsplit => ?_) <;> (try simp only [List.cons.injEq, and_true, true_and, not_true_eq_false, not_false_eq_true] at hsplit) <;> try (exfalso; omega)) | refine Pick.au ?_ | refine store_au ?_ | refine Any.mk (fun _ => ?_) | refine Both.mk ?_ ?_)); all_goals (try (conv => whnf))
    · obtain rfl : j = (119 - l.length % 64) % 64 := by omega
      refine Done.mk ?_
      have e : xs ++ put64 (8 * BitVec.ofNat 64 n) = fill l n := by
        rw [fill, hx, show BitVec.ofNat 64 (8 * n) = 8 * BitVec.ofNat 64 n by apply BitVec.eq_of_toNat_eq; rw [BitVec.toNat_mul]; simp]
      rw [← e]
      exact Gives.mk (by repeat (first | exact List.Mem.head _ | refine List.Mem.tail _ ?_)) (by rw [List.length_map]) rfl ‹_›
    · refine again (m - 1) (by omega) (Sub.cons rfl (Sub.cons rfl Sub.nil)) (by repeat (first | exact List.Sublist.refl _ | exact List.nil_sublist _ | refine List.Sublist.cons_cons _ ?_ | refine List.Sublist.cons _ ?_)) ⟨j + 1, _, _, _, _, _, _, by omega, ?_, ?_, rfl, ‹_›, rfl, rfl⟩
      · rw [hx, List.replicate_succ', List.append_assoc]
      · rw [List.length_append]; rfl
  · refine LoopVC.mk (fun m env hs => ∃ (j b k cap : Nat) (r : List Value) (fr : Nat × Nat) (xs : List B8), j + m = (119 - l.length % 64) % 64 ∧ xs = l ++ [0x80] ++ List.replicate j 0 ∧ k = xs.length ∧ cap = (xs.map b8 ++ r).length ∧ Soft fr (xs.map b8 ++ r).length ∧
      env = [(0, .pointer (some ⟨p, 0, none⟩)), (3, .slice (some ⟨b, 0, none⟩) k cap)] ∧ hs = [⟨b, xs.map b8 ++ r, 5, fr⟩]) ((119 - l.length % 64) % 64)
      (Weak.mk (Sub.cons rfl (Sub.cons rfl Sub.nil)) (by repeat (first | exact List.Sublist.refl _ | exact List.nil_sublist _ | refine List.Sublist.cons_cons _ ?_ | refine List.Sublist.cons _ ?_)) ⟨0, _, _, _, _, _, l ++ [0x80], by omega, by simp, by simp, ?_, ?_, rfl, rfl⟩) ?_
    · rfl
    · exact ‹_›
    rintro m env hs ⟨j, b, _, _, r, fr, xs, hj, hx, rfl, rfl, hf, rfl, rfl⟩
    have hxl : xs.length = l.length + 1 + j := by rw [hx]; simp; omega
    have h8 : ((8 * BitVec.ofNat 64 n).toNat : Int) = 8 * n := by rw [BitVec.toNat_mul, BitVec.toNat_ofNat]; show (((8 * (n % 2 ^ 64)) % 2 ^ 64 : Nat) : Int) = _; omega
    repeat' ((try (conv => whnf)); (first | refine Pick.mk _ (cell_known h (by simp) rfl) ?_ | (refine AppendVC.bytes (ys := [0]) tab_ok apb rfl (by repeat (first | exact Take.head _ | apply Take.tail)) hf rfl rfl (Holds.own (by repeat (first | exact List.Mem.head _ | refine List.Mem.tail _ ?_)) 0 rfl rfl) (by show (2 * (_ + 1) + 192) * 1 ≤ _; omega) (fun b5 r5 fr5 hf5 => ?_)) | refine Pick.mk ((8 * BitVec.ofNat 64 n).toNat : Int) (h8.trans (fit_u64 (by omega) (by omega))) ?_ | refine CallVC.givesB (fun w hw => putlong_r _ xs _ (8 * BitVec.ofNat 64 n) (by omega) w (at_pre (by repeat (first | exact List.Mem.head _ | refine List.Mem.tail _ ?_)) hw)) (fun b r fr hf => ?_) | refine Need.au ?_ | (refine Split.mk (fun hsplit => ?_) (fun hsplit => ?_) <;> (try simp only [List.cons.injEq, and_true, true_and, not_true_eq_false, not_false_eq_true] at hsplit) <;> try (exfalso; omega)) | refine Pick.au ?_ | refine store_au ?_ | refine Any.mk (fun _ => ?_) | refine Both.mk ?_ ?_)); all_goals (try (conv => whnf))
    · obtain rfl : j = (119 - l.length % 64) % 64 := by omega
      refine Done.mk ?_
      have e : xs ++ put64 (8 * BitVec.ofNat 64 n) = fill l n := by
        rw [fill, hx, show BitVec.ofNat 64 (8 * n) = 8 * BitVec.ofNat 64 n by apply BitVec.eq_of_toNat_eq; rw [BitVec.toNat_mul]; simp]
      rw [← e]
      exact Gives.mk (by repeat (first | exact List.Mem.head _ | refine List.Mem.tail _ ?_)) (by rw [List.length_map]) rfl ‹_›
    · refine again (m - 1) (by omega) (Sub.cons rfl (Sub.cons rfl Sub.nil)) (by repeat (first | exact List.Sublist.refl _ | exact List.nil_sublist _ | refine List.Sublist.cons_cons _ ?_ | refine List.Sublist.cons _ ?_)) ⟨j + 1, _, _, _, _, _, _, by omega, ?_, ?_, rfl, ‹_›, rfl, rfl⟩
      · rw [hx, List.replicate_succ', List.append_assoc]
      · rw [List.length_append]; rfl
end Go.Proofs.YtnlheljpagpiiaaGreat
