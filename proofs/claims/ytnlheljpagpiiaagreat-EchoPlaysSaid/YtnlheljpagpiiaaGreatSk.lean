/-
  Pads of a key, in the program and in the document; every input.
-/
import Derived.Test.YtnlheljpagpiiaaGreatMi
set_option linter.unusedVariables false
set_option linter.unusedSimpArgs false
set_option maxRecDepth 100000
set_option maxHeartbeats 4000000
namespace Go.Proofs.YtnlheljpagpiiaaGreat
open Go
attribute [local irreducible] bitsOf shlOf shrOf

/-- The first so many bytes of a row with a byte xored upon. -/
def xorTo (l : List B8) (c : B8) (i : Nat) : List B8 := (l.take i).map (· ^^^ c) ++ l.drop i
theorem xorTo_len (l : List B8) (c : B8) (i : Nat) : (xorTo l c i).length = l.length := by simp [xorTo]; omega
theorem xorTo_get (l : List B8) (c : B8) (i : Nat) (hi : i < l.length) : (xorTo l c i).getD i 0 = l.getD i 0 := by
  rw [List.getD_eq_getElem?_getD, List.getD_eq_getElem?_getD, xorTo, List.getElem?_append_right (by simp; omega), List.getElem?_drop]
  congr 2
  simp; omega
theorem xorTo_set (l : List B8) (c : B8) (i : Nat) (hi : i < l.length) : (xorTo l c i).set i (l.getD i 0 ^^^ c) = xorTo l c (i + 1) := by
  have hl : ((l.take i).map (· ^^^ c)).length = i := by simp; omega
  rw [xorTo, List.set_append_right _ _ (by omega), hl, Nat.sub_self, List.drop_eq_getElem_cons hi, List.set_cons_zero, xorTo, take_step _ _ hi, List.map_append, List.append_assoc, List.getD_eq_getElem?_getD, List.getElem?_eq_getElem hi]
  rfl
theorem pad_r (kp : Nat) (A : Option Addr) (k : List B8) (cap : Nat) (c : B8) (hk : k.length ≤ 64) (w : World) (h : At w (some ⟨kp, 0, none⟩) [.slice A k.length cap]) (hA : At w A (k.map b8)) :
    Ret Tryz.prog 160 [b8 c, .pointer (some ⟨kp, 0, none⟩)] w (Gives 5 (((k ++ List.replicate (64 - k.length) 0).map (· ^^^ c)).map b8)) := by
  obtain ⟨l, hl⟩ : ∃ l, l = k ++ List.replicate (64 - k.length) 0 := ⟨_, rfl⟩
  have hll : l.length = 64 := by rw [hl]; simp; omega
  have hcs : k.map b8 ++ (zerosL (64 : Int).toNat ty5.zero).drop k.length = l.map b8 := by
    rw [hl, List.map_append]
    congr 1
    show (List.replicate 64 (Value.int .u8 0)).drop k.length = _
    rw [List.drop_replicate, List.map_replicate]
    rfl
  refine ret_vc tab_ok Tryz.func160 rfl rfl ?_
  repeat' ((try (conv => whnf)); (first | refine Need.mk ⟨by omega, by omega, by decide, by decide⟩ ?_ | refine Pick.mk _ (cell_known h (by simp) rfl) ?_ | (refine CopyVC.bytes tab_ok rfl rfl rfl rfl (Holds.at (by simp) hA (by simp)) (by rw [hcs]; exact Upd.head _) hk (by rw [zerosL_len]; decide) soft0 ?_) | refine Need.au ?_ | (refine Split.mk (fun hsplit => ?_) (fun hsplit => ?_) <;> (try simp only [List.cons.injEq, and_true, true_and, not_true_eq_false, not_false_eq_true] at hsplit) <;> try (exfalso; omega)) | refine Pick.au ?_ | refine store_au ?_ | refine Any.mk (fun _ => ?_) | refine Both.mk ?_ ?_)); all_goals (try (conv => whnf))
  rename_i b
  refine LoopVC.mk (fun n env hs => ∃ (i : Nat) (x : Int) (cs : List Value), x = i ∧ i + n = 64 ∧ cs = (xorTo l c i).map b8 ∧
    env = [(0, b8 c), (4, .slice (some ⟨b, 0, none⟩) 64 64), (11, .int .i64 64), (12, .int .i64 x)] ∧ hs = [⟨b, cs, 5, (0, 0)⟩]) 64
    (Weak.mk (Sub.cons rfl (Sub.cons rfl (Sub.cons rfl (Sub.cons rfl Sub.nil)))) (by repeat (first | exact List.Sublist.refl _ | exact List.nil_sublist _ | refine List.Sublist.cons_cons _ ?_ | refine List.Sublist.cons _ ?_)) ⟨0, 0, _, rfl, rfl, by rw [xorTo]; rfl, rfl, rfl⟩) ?_
  rintro n env hs ⟨i, _, _, rfl, hi, rfl, rfl, rfl⟩
  have hxl := xorTo_len l c i
  repeat' ((try (conv => whnf)); (first | refine Pick.mk _ (cell_b (by repeat (first | exact List.Mem.head _ | refine List.Mem.tail _ ?_)) (by omega)) ?_ | refine Pick.mk _ (xor_u8 _ _) ?_ | refine store_el (by repeat (first | exact Upd.head _ | apply Upd.tail)) soft0 rfl (by rw [List.length_map]; omega) ?_ | refine Need.au ?_ | (refine Split.mk (fun hsplit => ?_) (fun hsplit => ?_) <;> (try simp only [List.cons.injEq, and_true, true_and, not_true_eq_false, not_false_eq_true] at hsplit) <;> try (exfalso; omega)) | refine Pick.au ?_ | refine store_au ?_ | refine Any.mk (fun _ => ?_) | refine Both.mk ?_ ?_)); all_goals (try (conv => whnf))
  · refine again (n - 1) (by omega) (Sub.cons rfl (Sub.cons rfl (Sub.cons rfl (Sub.cons rfl Sub.nil)))) (List.Sublist.refl _) ⟨i + 1, _, _, by omega, by omega, ?_, rfl, rfl⟩
    rw [Int.toNat_natCast, xorTo_get _ _ _ (by omega)]
    exact (map_set b8 _ i _).trans (congrArg _ (xorTo_set l c i (by omega)))
  · obtain rfl : i = 64 := by omega
    have e : xorTo l c 64 = l.map (· ^^^ c) := by rw [xorTo, List.take_of_length_le (by omega), List.drop_eq_nil_of_le (by omega), List.append_nil]
    rw [e, ← hl]
    exact Done.mk (Gives.all (by repeat (first | exact List.Mem.head _ | refine List.Mem.tail _ ?_)) rfl (by simp [hll]) (by simp [hll]))
/-- So many bytes xored, and noughts. -/
def padTo (l : List B8) (c : B8) (i : Nat) : List B8 := (l.take i).map (· ^^^ c) ++ List.replicate (64 - i) 0
theorem padTo_len (l : List B8) (c : B8) (i : Nat) (hl : l.length = 64) (hi : i ≤ 64) : (padTo l c i).length = 64 := by simp [padTo, hl]; omega
theorem padTo_set (l : List B8) (c : B8) (i : Nat) (hl : l.length = 64) (hi : i < 64) : (padTo l c i).set i (l.getD i 0 ^^^ c) = padTo l c (i + 1) := by
  have h1 : ((l.take i).map (· ^^^ c)).length = i := by simp [hl]; omega
  rw [padTo, List.set_append_right _ _ (by omega), h1, Nat.sub_self, show 64 - i = (64 - (i + 1)) + 1 by omega, List.replicate_succ, List.set_cons_zero, padTo, take_step _ _ (by omega), List.map_append, List.append_assoc, List.getD_eq_getElem?_getD, List.getElem?_eq_getElem (by omega)]
  rfl
theorem rpad_r (A : Option Addr) (key : List B8) (cap : Nat) (c : B8) (hb : key.length ≤ 1048576) (w : World) (hA : At w A (key.map b8)) :
    Ret Tryz.prog 114 [.slice A key.length cap, b8 c] w (Gives 5 ((padOf key c).map b8)) := by
  obtain ⟨k, hk⟩ : ∃ k, k = keyOf key := ⟨_, rfl⟩
  have hk64 := keyOf_len key
  rw [← hk] at hk64
  obtain ⟨l, hl⟩ : ∃ l, l = k ++ List.replicate (64 - k.length) 0 := ⟨_, rfl⟩
  have hll : l.length = 64 := by rw [hl]; simp; omega
  refine ret_vc tab_ok Tryz.func114 rfl rfl ?_
  repeat' ((try (conv => whnf)); (first | refine Need.mk ⟨by omega, by omega, by decide, by decide⟩ ?_ | refine CallVC.givesEB (fun w hw => rof_r A key cap hb w (hA.here hw (fun _ _ => by simp))) (fun b1 r1 fr1 hf1 => ?_) | refine Need.au ?_ | (refine Split.mk (fun hsplit => ?_) (fun hsplit => ?_) <;> (try simp only [List.cons.injEq, and_true, true_and, not_true_eq_false, not_false_eq_true] at hsplit) <;> try (exfalso; omega)) | refine Pick.au ?_ | refine store_au ?_ | refine Any.mk (fun _ => ?_) | refine Both.mk ?_ ?_)); all_goals (try (conv => whnf))
  · rename_i b
    obtain rfl : k = sha key := by rw [hk, keyOf, if_pos (by omega)]
    refine LoopVC.mk (fun n env hs => ∃ (i : Nat) (x : Int) (cs : List Value), x = i ∧ i + n = 64 ∧ cs = (padTo l c i).map b8 ∧
      env = [(1, b8 c), (5, .slice (some ⟨b1, 0, none⟩) (sha key).length ((sha key).map b8 ++ r1).length), (8, .slice (some ⟨b, 0, none⟩) 64 64), (9, .int .i64 x)] ∧ hs = [⟨b, cs, 5, (0, 0)⟩, ⟨b1, (sha key).map b8 ++ r1, 5, fr1⟩]) 64
      (Weak.mk (Sub.cons rfl (Sub.cons rfl (Sub.cons rfl (Sub.cons rfl Sub.nil)))) (by repeat (first | exact List.Sublist.refl _ | exact List.nil_sublist _ | refine List.Sublist.cons_cons _ ?_ | refine List.Sublist.cons _ ?_)) ⟨0, 0, _, rfl, rfl, by rw [padTo]; rfl, rfl, rfl⟩) ?_
    rintro n env hs ⟨i, _, _, rfl, hi, rfl, rfl, rfl⟩
    have hxl := padTo_len l c i hll (by omega)
    have hin : ∀ h : i < (sha key).length, l.getD i 0 = (sha key).getD i 0 := fun h => by rw [hl, List.getD_eq_getElem?_getD, List.getD_eq_getElem?_getD, List.getElem?_append_left h]
    have hout : ¬ i < (sha key).length → i < 64 → c = l.getD i 0 ^^^ c := fun h h6 => by
      rw [hl, List.getD_eq_getElem?_getD, List.getElem?_append_right (by omega), List.getElem?_replicate, if_pos (by omega)]
      simp
    repeat' ((try (conv => whnf)); (first | refine Pick.mk _ (cell_br (by repeat (first | exact List.Mem.head _ | refine List.Mem.tail _ ?_)) (by omega)) ?_ | refine Pick.mk _ (xor_u8 _ _) ?_ | refine store_el (by repeat (first | exact Upd.head _ | apply Upd.tail)) soft0 rfl (by rw [List.length_map]; omega) ?_ | refine store_el (by repeat (first | exact Upd.head _ | apply Upd.tail)) (by rw [List.length_set]; exact soft0) rfl (by rw [List.length_set, List.length_map]; omega) ?_ | refine Need.au ?_ | (refine Split.mk (fun hsplit => ?_) (fun hsplit => ?_) <;> (try simp only [List.cons.injEq, and_true, true_and, not_true_eq_false, not_false_eq_true] at hsplit) <;> try (exfalso; omega)) | refine Pick.au ?_ | refine store_au ?_ | refine Any.mk (fun _ => ?_) | refine Both.mk ?_ ?_)); all_goals (try (conv => whnf))
    · refine again (n - 1) (by omega) (Sub.cons rfl (Sub.cons rfl (Sub.cons rfl (Sub.cons rfl Sub.nil)))) (List.Sublist.refl _) ⟨i + 1, _, _, by omega, by omega, ?_, rfl, rfl⟩
      rw [Int.toNat_natCast, List.set_set, ← hin (by omega)]
      exact (map_set b8 _ i _).trans (congrArg _ (padTo_set l c i hll (by omega)))
    · refine again (n - 1) (by omega) (Sub.cons rfl (Sub.cons rfl (Sub.cons rfl (Sub.cons rfl Sub.nil)))) (List.Sublist.refl _) ⟨i + 1, _, _, by omega, by omega, ?_, rfl, rfl⟩
      rw [Int.toNat_natCast]
      exact (map_set b8 _ i c).trans (congrArg _ ((congrArg _ (hout (by omega) (by omega))).trans (padTo_set l c i hll (by omega))))
    · obtain rfl : i = 64 := by omega
      have e : padTo l c 64 = l.map (· ^^^ c) := by rw [padTo, List.take_of_length_le (by omega)]; simp
      rw [e, hl]
      refine Done.mk (Gives.all (by repeat (first | exact List.Mem.head _ | refine List.Mem.tail _ ?_)) ?_ ?_ ?_)
      · rw [padOf, ← hk]
      · rw [List.length_map, padOf_len]
      · rw [List.length_map, padOf_len]
  · rename_i b
    obtain rfl : k = key := by rw [hk, keyOf, if_neg (by omega)]
    cases A with
    | none =>
      have h0 : k.length = 0 := by
        cases k with
        | nil => rfl
        | cons x y => obtain ⟨a, ha⟩ := hA.is (by simp); cases ha
      refine LoopVC.mk (fun n env hs => ∃ (i : Nat) (x : Int) (cs : List Value), x = i ∧ i + n = 64 ∧ cs = (padTo l c i).map b8 ∧
        env = [(1, b8 c), (5, .slice none k.length cap), (8, .slice (some ⟨b, 0, none⟩) 64 64), (9, .int .i64 x)] ∧ hs = [⟨b, cs, 5, (0, 0)⟩]) 64
        (Weak.mk (Sub.cons rfl (Sub.cons rfl (Sub.cons rfl (Sub.cons rfl Sub.nil)))) (by repeat (first | exact List.Sublist.refl _ | exact List.nil_sublist _ | refine List.Sublist.cons_cons _ ?_ | refine List.Sublist.cons _ ?_)) ⟨0, 0, _, rfl, rfl, by rw [padTo]; rfl, rfl, rfl⟩) ?_
      rintro n env hs ⟨i, _, _, rfl, hi, rfl, rfl, rfl⟩
      have hxl := padTo_len l c i hll (by omega)
      have hin : ∀ h : i < k.length, l.getD i 0 = k.getD i 0 := fun h => by rw [hl, List.getD_eq_getElem?_getD, List.getD_eq_getElem?_getD, List.getElem?_append_left h]
      have hout : ¬ i < k.length → i < 64 → c = l.getD i 0 ^^^ c := fun h h6 => by
        rw [hl, List.getD_eq_getElem?_getD, List.getElem?_append_right (by omega), List.getElem?_replicate, if_pos (by omega)]
        simp
      repeat' ((try (conv => whnf)); (first | refine Pick.mk _ (cell_b (by repeat (first | exact List.Mem.head _ | refine List.Mem.tail _ ?_)) (by omega)) ?_ | refine Pick.mk _ (xor_u8 _ _) ?_ | refine store_el (by repeat (first | exact Upd.head _ | apply Upd.tail)) soft0 rfl (by rw [List.length_map]; omega) ?_ | refine store_el (by repeat (first | exact Upd.head _ | apply Upd.tail)) (by rw [List.length_set]; exact soft0) rfl (by rw [List.length_set, List.length_map]; omega) ?_ | refine Need.au ?_ | (refine Split.mk (fun hsplit => ?_) (fun hsplit => ?_) <;> (try simp only [List.cons.injEq, and_true, true_and, not_true_eq_false, not_false_eq_true] at hsplit) <;> try (exfalso; omega)) | refine Pick.au ?_ | refine store_au ?_ | refine Any.mk (fun _ => ?_) | refine Both.mk ?_ ?_)); all_goals (try (conv => whnf))
      · refine again (n - 1) (by omega) (Sub.cons rfl (Sub.cons rfl (Sub.cons rfl (Sub.cons rfl Sub.nil)))) (List.Sublist.refl _) ⟨i + 1, _, _, by omega, by omega, ?_, rfl, rfl⟩
        rw [Int.toNat_natCast]
        exact (map_set b8 _ i c).trans (congrArg _ ((congrArg _ (hout (by omega) (by omega))).trans (padTo_set l c i hll (by omega))))
      · obtain rfl : i = 64 := by omega
        have e : padTo l c 64 = l.map (· ^^^ c) := by rw [padTo, List.take_of_length_le (by omega)]; simp
        rw [e, hl]
        refine Done.mk (Gives.all (by repeat (first | exact List.Mem.head _ | refine List.Mem.tail _ ?_)) ?_ ?_ ?_)
        · rw [padOf, ← hk]
        · rw [List.length_map, padOf_len]
        · rw [List.length_map, padOf_len]
    | some a =>
      refine LoopVC.mk (fun n env hs => ∃ (i : Nat) (x : Int) (cs : List Value), x = i ∧ i + n = 64 ∧ cs = (padTo l c i).map b8 ∧
        env = [(1, b8 c), (5, .slice (some a) k.length cap), (8, .slice (some ⟨b, 0, none⟩) 64 64), (9, .int .i64 x)] ∧ hs = [⟨b, cs, 5, (0, 0)⟩]) 64
        (Weak.mk (Sub.cons rfl (Sub.cons rfl (Sub.cons rfl (Sub.cons rfl Sub.nil)))) (by repeat (first | exact List.Sublist.refl _ | exact List.nil_sublist _ | refine List.Sublist.cons_cons _ ?_ | refine List.Sublist.cons _ ?_)) ⟨0, 0, _, rfl, rfl, by rw [padTo]; rfl, rfl, rfl⟩) ?_
      rintro n env hs ⟨i, _, _, rfl, hi, rfl, rfl, rfl⟩
      have hxl := padTo_len l c i hll (by omega)
      have hin : ∀ h : i < k.length, l.getD i 0 = k.getD i 0 := fun h => by rw [hl, List.getD_eq_getElem?_getD, List.getD_eq_getElem?_getD, List.getElem?_append_left h]
      have hout : ¬ i < k.length → i < 64 → c = l.getD i 0 ^^^ c := fun h h6 => by
        rw [hl, List.getD_eq_getElem?_getD, List.getElem?_append_right (by omega), List.getElem?_replicate, if_pos (by omega)]
        simp
      repeat' ((try (conv => whnf)); (first | refine Pick.mk _ (cell_arg hA (by simp) (by omega)) ?_ | refine Pick.mk _ (xor_u8 _ _) ?_ | refine store_el (by repeat (first | exact Upd.head _ | apply Upd.tail)) soft0 rfl (by rw [List.length_map]; omega) ?_ | refine store_el (by repeat (first | exact Upd.head _ | apply Upd.tail)) (by rw [List.length_set]; exact soft0) rfl (by rw [List.length_set, List.length_map]; omega) ?_ | refine Need.au ?_ | (refine Split.mk (fun hsplit => ?_) (fun hsplit => ?_) <;> (try simp only [List.cons.injEq, and_true, true_and, not_true_eq_false, not_false_eq_true] at hsplit) <;> try (exfalso; omega)) | refine Pick.au ?_ | refine store_au ?_ | refine Any.mk (fun _ => ?_) | refine Both.mk ?_ ?_)); all_goals (try (conv => whnf))
      · refine again (n - 1) (by omega) (Sub.cons rfl (Sub.cons rfl (Sub.cons rfl (Sub.cons rfl Sub.nil)))) (List.Sublist.refl _) ⟨i + 1, _, _, by omega, by omega, ?_, rfl, rfl⟩
        rw [Int.toNat_natCast, List.set_set, ← hin (by omega)]
        exact (map_set b8 _ i _).trans (congrArg _ (padTo_set l c i hll (by omega)))
      · refine again (n - 1) (by omega) (Sub.cons rfl (Sub.cons rfl (Sub.cons rfl (Sub.cons rfl Sub.nil)))) (List.Sublist.refl _) ⟨i + 1, _, _, by omega, by omega, ?_, rfl, rfl⟩
        rw [Int.toNat_natCast]
        exact (map_set b8 _ i c).trans (congrArg _ ((congrArg _ (hout (by omega) (by omega))).trans (padTo_set l c i hll (by omega))))
      · obtain rfl : i = 64 := by omega
        have e : padTo l c 64 = l.map (· ^^^ c) := by rw [padTo, List.take_of_length_le (by omega)]; simp
        rw [e, hl]
        refine Done.mk (Gives.all (by repeat (first | exact List.Mem.head _ | refine List.Mem.tail _ ?_)) ?_ ?_ ?_)
        · rw [padOf, ← hk]
        · rw [List.length_map, padOf_len]
        · rw [List.length_map, padOf_len]
end Go.Proofs.YtnlheljpagpiiaaGreat
