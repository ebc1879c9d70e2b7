/-
  Digests: the turns of words, in the program and in the document; every input.
-/
import Derived.Test.YtnlheljpagpiiaaGreatTab
import Derived.Test.YtnlheljpagpiiaaGreatMe
set_option linter.unusedVariables false
set_option linter.unusedSimpArgs false
set_option maxRecDepth 100000
namespace Go.Proofs.YtnlheljpagpiiaaGreat
open Go
attribute [local irreducible] bitsOf shlOf shrOf

theorem right_v (x : W32) (c : Int) (h1 : 1 ≤ c) (h2 : c ≤ 31) (w : World) : Val Tryz.prog 180 [w32 x, .int .u64 c] w (w32 (ror x c.toNat)) := by
  refine val_vc tab_ok Tryz.func180 rfl rfl ?_
  repeat' ((try (conv => whnf)); (first | refine Pick.mk _ (shr_u32 _ _ (by omega) (by omega)) ?_ | refine Pick.mk _ (shl_u32 _ _ (by omega) (by omega)) ?_ | refine Pick.mk _ (or_u32 _ _) ?_ | refine Need.au ?_ | (refine Split.mk (fun hsplit => ?_) (fun hsplit => ?_) <;> (try simp only [List.cons.injEq, and_true, true_and, not_true_eq_false, not_false_eq_true] at hsplit) <;> try (exfalso; omega)) | refine Pick.au ?_ | refine store_au ?_ | refine Any.mk (fun _ => ?_) | refine Both.mk ?_ ?_)); all_goals (try (conv => whnf))
  all_goals refine Done.mk ?_
  unfold ror
  rw [show (32 - c).toNat = 32 - c.toNat by omega]
  rfl
theorem great0_v (x : W32) (w : World) : Val Tryz.prog 175 [w32 x] w (w32 (great0 x)) := by
  refine val_vc tab_ok Tryz.func175 rfl rfl ?_
  repeat' ((try (conv => whnf)); (first | refine CallVC.val (fun w _ => right_v _ _ (by omega) (by omega) w) ?_ | refine Pick.mk _ (xor_u32 _ _) ?_ | refine Need.au ?_ | (refine Split.mk (fun hsplit => ?_) (fun hsplit => ?_) <;> (try simp only [List.cons.injEq, and_true, true_and, not_true_eq_false, not_false_eq_true] at hsplit) <;> try (exfalso; omega)) | refine Pick.au ?_ | refine store_au ?_ | refine Any.mk (fun _ => ?_) | refine Both.mk ?_ ?_)); all_goals (try (conv => whnf))
  all_goals refine Done.mk rfl
theorem great1_v (x : W32) (w : World) : Val Tryz.prog 174 [w32 x] w (w32 (great1 x)) := by
  refine val_vc tab_ok Tryz.func174 rfl rfl ?_
  repeat' ((try (conv => whnf)); (first | refine CallVC.val (fun w _ => right_v _ _ (by omega) (by omega) w) ?_ | refine Pick.mk _ (xor_u32 _ _) ?_ | refine Need.au ?_ | (refine Split.mk (fun hsplit => ?_) (fun hsplit => ?_) <;> (try simp only [List.cons.injEq, and_true, true_and, not_true_eq_false, not_false_eq_true] at hsplit) <;> try (exfalso; omega)) | refine Pick.au ?_ | refine store_au ?_ | refine Any.mk (fun _ => ?_) | refine Both.mk ?_ ?_)); all_goals (try (conv => whnf))
  all_goals refine Done.mk rfl
theorem small0_v (x : W32) (w : World) : Val Tryz.prog 179 [w32 x] w (w32 (small0 x)) := by
  refine val_vc tab_ok Tryz.func179 rfl rfl ?_
  repeat' ((try (conv => whnf)); (first | refine CallVC.val (fun w _ => right_v _ _ (by omega) (by omega) w) ?_ | refine Pick.mk _ (xor_u32 _ _) ?_ | refine Pick.mk _ (shr_u32 _ _ (by omega) (by omega)) ?_ | refine Need.au ?_ | (refine Split.mk (fun hsplit => ?_) (fun hsplit => ?_) <;> (try simp only [List.cons.injEq, and_true, true_and, not_true_eq_false, not_false_eq_true] at hsplit) <;> try (exfalso; omega)) | refine Pick.au ?_ | refine store_au ?_ | refine Any.mk (fun _ => ?_) | refine Both.mk ?_ ?_)); all_goals (try (conv => whnf))
  all_goals refine Done.mk rfl
theorem small1_v (x : W32) (w : World) : Val Tryz.prog 178 [w32 x] w (w32 (small1 x)) := by
  refine val_vc tab_ok Tryz.func178 rfl rfl ?_
  repeat' ((try (conv => whnf)); (first | refine CallVC.val (fun w _ => right_v _ _ (by omega) (by omega) w) ?_ | refine Pick.mk _ (xor_u32 _ _) ?_ | refine Pick.mk _ (shr_u32 _ _ (by omega) (by omega)) ?_ | refine Need.au ?_ | (refine Split.mk (fun hsplit => ?_) (fun hsplit => ?_) <;> (try simp only [List.cons.injEq, and_true, true_and, not_true_eq_false, not_false_eq_true] at hsplit) <;> try (exfalso; omega)) | refine Pick.au ?_ | refine store_au ?_ | refine Any.mk (fun _ => ?_) | refine Both.mk ?_ ?_)); all_goals (try (conv => whnf))
  all_goals refine Done.mk rfl
theorem turn_v (x : W32) (c : Int) (h1 : 1 ≤ c) (h2 : c ≤ 31) (w : World) : Val Tryz.prog 177 [w32 x, .int .i64 c] w (w32 (ror x c.toNat)) := by
  refine val_vc tab_ok Tryz.func177 rfl rfl ?_
  repeat' ((try (conv => whnf)); (first | refine Pick.mk _ (shr_u32 _ _ (by omega) (by omega)) ?_ | refine Pick.mk _ (shl_u32 _ _ (by omega) (by omega)) ?_ | refine Pick.mk _ (or_u32 _ _) ?_ | refine Pick.mk pl177_1 (by decide +kernel) ?_ | refine Need.au ?_ | (refine Split.mk (fun hsplit => ?_) (fun hsplit => ?_) <;> (try simp only [List.cons.injEq, and_true, true_and, not_true_eq_false, not_false_eq_true] at hsplit) <;> try (exfalso; omega)) | refine Pick.au ?_ | refine store_au ?_ | refine Any.mk (fun _ => ?_) | refine Both.mk ?_ ?_)); all_goals (try (conv => whnf))
  all_goals refine Done.mk ?_
  unfold ror
  rw [show (32 - c).toNat = 32 - c.toNat by omega]
  rfl
/-- The document's three turns. -/
def turns (x : W32) (a b c : Int) : W32 := if c < 0 then ror x a.toNat ^^^ ror x b.toNat ^^^ x >>> (-c).toNat else ror x a.toNat ^^^ ror x b.toNat ^^^ ror x c.toNat
theorem turns_v (x : W32) (a b c : Int) (a1 : 1 ≤ a) (a2 : a ≤ 31) (b1 : 1 ≤ b) (b2 : b ≤ 31) (c1 : -31 ≤ c) (c2 : c ≤ 31) (c3 : c ≠ 0) (w : World) : Val Tryz.prog 169 [w32 x, .int .i64 a, .int .i64 b, .int .i64 c] w (w32 (turns x a b c)) := by
  refine val_vc tab_ok Tryz.func169 rfl rfl ?_
  repeat' ((try (conv => whnf)); (first | refine CallVC.val (fun w _ => turn_v _ _ (by omega) (by omega) w) ?_ | refine Pick.mk _ (xor_u32 _ _) ?_ | refine Pick.mk _ (shr_u32 _ _ (by omega) (by omega)) ?_ | refine Need.au ?_ | (refine Split.mk (fun hsplit => ?_) (fun hsplit => ?_) <;> (try simp only [List.cons.injEq, and_true, true_and, not_true_eq_false, not_false_eq_true] at hsplit) <;> try (exfalso; omega)) | refine Pick.au ?_ | refine store_au ?_ | refine Any.mk (fun _ => ?_) | refine Both.mk ?_ ?_)); all_goals (try (conv => whnf))
  all_goals refine Done.mk ?_
  · unfold turns; rw [if_pos (by assumption), show (-c).toNat = (0 - c).toNat by omega]; rfl
  · unfold turns; rw [if_neg (by assumption)]; rfl
theorem turns_g0 (x : W32) : turns x 2 13 22 = great0 x := rfl
theorem turns_g1 (x : W32) : turns x 6 11 25 = great1 x := rfl
theorem turns_s0 (x : W32) : turns x 7 18 (-3) = small0 x := rfl
theorem turns_s1 (x : W32) : turns x 17 19 (-10) = small1 x := rfl
end Go.Proofs.YtnlheljpagpiiaaGreat
