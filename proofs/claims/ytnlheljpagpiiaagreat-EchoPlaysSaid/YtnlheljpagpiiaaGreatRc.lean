/-
  Bytes and their sum behind; does it fit? Program and document; every input.
-/
import Derived.Test.YtnlheljpagpiiaaGreatRb
import Derived.Test.YtnlheljpagpiiaaGreatKh
set_option linter.unusedVariables false
set_option linter.unusedSimpArgs false
set_option maxRecDepth 100000
set_option maxHeartbeats 8000000
namespace Go.Proofs.YtnlheljpagpiiaaGreat
open Go
attribute [local irreducible] bitsOf shlOf shrOf
/-- A sum's three bytes. -/
def fixT (x : BitVec 32) : List B8 := [(x >>> 16).setWidth 8, (x >>> 8).setWidth 8, x.setWidth 8]
def fixB (l : List B8) : List B8 := l ++ fixT (crcSum l)
theorem fixB_len (l : List B8) : (fixB l).length = l.length + 3 := by unfold fixB; rw [List.length_append]; rfl
theorem conv_u32_8 (x : BitVec 32) : ((x.setWidth 8).toNat : Int) = IntKind.u8.wrap (x.toNat : Int) := by
  simp [IntKind.wrap, IntKind.signed, IntKind.bits, BitVec.toNat_setWidth]
theorem fixT_next (x : BitVec 32) (j : Nat) (h : j < 3) : (fixT x).take j ++ [(x >>> (8 * (2 - j))).setWidth 8] = (fixT x).take (j + 1) := by
  match j, h with
  | 0, _ => rfl
  | 1, _ => rfl
  | 2, _ => simp [fixT]
theorem cfix_r (A : Option Addr) (l : List B8) (ck : Nat) (hlk : l.length ≤ 1048576) (w : World) (hA : At w A (l.map b8)) : Ret Tryz.prog 55 [.slice A l.length ck] w (Gives 5 ((fixB l).map b8)) := by
  refine ret_vc tab_ok Tryz.func55 rfl rfl ?_
  repeat' ((try (conv => whnf)); (first | refine CallVC.val (fun w2 h2 => csum_v A l ck (by omega) w2 (hA.here h2 (fun _ _ => by simp))) ?_ | refine Need.mk ⟨by omega, by omega, by show (((l.length : Nat) : Int) + 3) * 1 ≤ _; omega, by decide⟩ ?_ | refine AppendVC.stay (xs := []) (ys := l) (r := zerosL (((l.length : Nat) : Int) + 3).toNat ty5.zero) tab_ok ap8 rfl (by repeat (first | exact Take.head _ | apply Take.tail)) soft0 (zw_len _) rfl (Holds.at (by rw [List.length_map]) hA (by simp)) (by omega) (fun r' hr' => ?_) | refine Need.au ?_ | (refine Split.mk (fun hsplit => ?_) (fun hsplit => ?_) <;> (try simp only [List.cons.injEq, and_true, true_and, not_true_eq_false, not_false_eq_true] at hsplit) <;> try (exfalso; omega)) | refine Pick.au ?_ | refine store_au ?_ | refine Any.mk (fun _ => ?_) | refine Both.mk ?_ ?_)); all_goals (try (conv => whnf))
  rename_i bo
  rw [List.nil_append] at hr' ⊢
  have hN : (((l.length : Nat) : Int) + 3).toNat = l.length + 3 := by omega
  rw [hN] at hr' ⊢
  generalize hx : crcSum l = x at *
  rw [show Int.toNat 0 + l.length = l.length + 0 from Nat.zero_add _]
  refine LoopVC.mk (fun m env hs => ∃ (j : Nat) (xk : Int) (r : List Value), xk = 2 - (j : Int) ∧ j + m = 3 ∧ ((l ++ (fixT x).take j).map b8 ++ r).length = l.length + 3 ∧ env = [(3, w32 x), (4, .slice (some ⟨bo, 0, none⟩) (l.length + j) (l.length + 3)), (5, .int .i64 xk)] ∧ hs = [⟨bo, (l ++ (fixT x).take j).map b8 ++ r, 5, (0, 0)⟩]) 3
    (Weak.mk (Sub.cons rfl (Sub.cons rfl (Sub.cons rfl Sub.nil))) (List.Sublist.refl _) ⟨0, 2, r', by omega, by omega, by rw [List.take_zero, List.append_nil]; exact hr', rfl, by rw [List.take_zero, List.append_nil]⟩) ?_
  rintro m env hs ⟨j, xk, r, hxk, hj, hr, rfl, rfl⟩
  by_cases h3 : j < 3
  · have hk : (8 * xk).toNat = 8 * (2 - j) := by omega
    have hjl : (l ++ (fixT x).take j).length = l.length + j := by rw [List.length_append, List.length_take]; show l.length + min j 3 = _; omega
    have hnx := fixT_next x j h3
    repeat' ((try (conv => whnf)); (first | refine Pick.mk _ (shr_u32 x _ (by omega) (by omega)) ?_ | refine Pick.mk _ (conv_u32_8 _) ?_ | (rw [hk]; refine AppendVC.stay (xs := l ++ (fixT x).take j) (ys := [(x >>> (8 * (2 - j))).setWidth 8]) (r := r) (m := 1) tab_ok ap8 rfl (by repeat (first | exact Take.head _ | apply Take.tail)) soft0 hr hjl (Holds.row rfl (cellsAre_whole (by repeat (first | exact List.Mem.head _ | refine List.Mem.tail _ ?_)))) (by omega) (fun r2 hr2 => ?_)) | refine Need.au ?_ | (refine Split.mk (fun hsplit => ?_) (fun hsplit => ?_) <;> (try simp only [List.cons.injEq, and_true, true_and, not_true_eq_false, not_false_eq_true] at hsplit) <;> try (exfalso; omega)) | refine Pick.au ?_ | refine store_au ?_ | refine Any.mk (fun _ => ?_) | refine Both.mk ?_ ?_)); all_goals (try (conv => whnf))
    rw [List.append_assoc, hnx] at hr2 ⊢
    exact again (m - 1) (by omega) (Sub.cons rfl (Sub.cons rfl (Sub.cons rfl Sub.nil))) (List.Sublist.cons_cons _ (List.nil_sublist _)) ⟨j + 1, xk - 1, r2, by omega, by omega, hr2, rfl, rfl⟩
  · obtain rfl : j = 3 := by omega
    have e : l ++ (fixT x).take 3 = fixB l := by unfold fixB; rw [hx]; rfl
    have hl := fixB_len l
    rw [e] at hr ⊢
    obtain rfl : r = [] := List.eq_nil_of_length_eq_zero (by rw [List.length_append, List.length_map] at hr; omega)
    repeat' ((try (conv => whnf)); (first | refine Need.au ?_ | (refine Split.mk (fun hsplit => ?_) (fun hsplit => ?_) <;> (try simp only [List.cons.injEq, and_true, true_and, not_true_eq_false, not_false_eq_true] at hsplit) <;> try (exfalso; omega)) | refine Pick.au ?_ | refine store_au ?_ | refine Any.mk (fun _ => ?_) | refine Both.mk ?_ ?_)); all_goals (try (conv => whnf))
    exact Done.mk (Gives.all (List.Mem.head _) (List.append_nil _) (by rw [List.length_map]; omega) (by rw [List.length_map]; omega))
theorem rfix_r (A : Option Addr) (l : List B8) (ck : Nat) (hlk : l.length ≤ 140737488351232) (w : World) (hA : At w A (l.map b8)) : Ret Tryz.prog 81 [.slice A l.length ck] w (Gives 5 ((fixB l).map b8)) := by
  refine ret_vc tab_ok Tryz.func81 rfl rfl ?_
  repeat' ((try (conv => whnf)); (first | refine CallVC.val (fun w2 h2 => rwhole_v A l ck (by omega) w2 (hA.here h2 (fun _ _ => by simp))) ?_ | (refine AppendVC.bytes (xs := []) (r := []) (ys := l) tab_ok ap8 rfl (by repeat (first | exact Take.head _ | apply Take.tail)) soft0 rfl rfl (Holds.at (by rw [List.length_map]) hA (by simp)) (by show (2 * (_ + _) + 192) * 1 ≤ _; omega) (fun b5 r5 fr5 hf5 => ?_)) | refine Pick.mk _ (shr_u32 (crcSum l) 16 (by omega) (by omega)) ?_ | refine Pick.mk _ (shr_u32 (crcSum l) 8 (by omega) (by omega)) ?_ | refine Pick.mk _ (conv_u32_8 _) ?_ | (refine AppendVC.bytes (xs := [] ++ l) (ys := fixT (crcSum l)) tab_ok ap8 rfl (by repeat (first | exact Take.head _ | apply Take.tail)) hf5 rfl (by simp) (Holds.row rfl (cellsAre_whole (by repeat (first | exact List.Mem.head _ | refine List.Mem.tail _ ?_)))) (by show (2 * (_ + _) + 192) * 1 ≤ _; omega) (fun b6 r6 fr6 hf6 => ?_)) | refine Need.au ?_ | (refine Split.mk (fun hsplit => ?_) (fun hsplit => ?_) <;> (try simp only [List.cons.injEq, and_true, true_and, not_true_eq_false, not_false_eq_true] at hsplit) <;> try (exfalso; omega)) | refine Pick.au ?_ | refine store_au ?_ | refine Any.mk (fun _ => ?_) | refine Both.mk ?_ ?_)); all_goals (try (conv => whnf))
  rw [List.nil_append]
  exact Done.mk (Gives.mk (List.Mem.head _) (by rw [List.length_map, fixB_len]; omega) (by unfold fixB; simp) (by unfold fixB; simpa using hf6))
/-- Does the sum behind fit? -/
def goodB (l : List B8) : Bool := 3 ≤ l.length && fixB (l.take (l.length - 3)) == l
theorem goodB_iff {l : List B8} : goodB l = true ↔ 3 ≤ l.length ∧ fixB (l.take (l.length - 3)) = l := by unfold goodB; simp
theorem rgood_v (A : Option Addr) (l : List B8) (ck : Nat) (hlk : l.length ≤ 140737488351232) (hck : l.length ≤ ck) (w : World) (hA : At w A (l.map b8)) : Val Tryz.prog 83 [.slice A l.length ck] w (.bool (goodB l)) := by
  refine val_vc tab_ok Tryz.func83 rfl rfl ?_
  by_cases h3 : 3 ≤ l.length
  · have hT : (((l.length : Nat) : Int) - 3).toNat = (l.take (l.length - 3)).length := by rw [List.length_take]; omega
    have hfl := fixB_len (l.take (l.length - 3))
    repeat' ((try (conv => whnf)); (first | refine Pick.mk pm83_1 (by decide +kernel) ?_ | refine Pick.mk _ (conv_arg hA (by simp) rfl) ?_ | (rw [slice_cut0, hT]; refine CallVC.givesB (xs := fixB (l.take (l.length - 3))) (fun w2 h2 => rfix_r A (l.take (l.length - 3)) ck (by rw [List.length_take]; omega) w2 ((hA.takeB _).here h2 (fun _ _ => by simp))) (fun b1 r1 fr1 hf1 => ?_)) | refine Pick.mk _ (conv_own (by repeat (first | exact List.Mem.head _ | refine List.Mem.tail _ ?_)) rfl) ?_ | refine Pick.mk pl83_1 (by decide +kernel) ?_ | refine Need.au ?_ | (refine Split.mk (fun hsplit => ?_) (fun hsplit => ?_) <;> (try simp only [List.cons.injEq, and_true, true_and, not_true_eq_false, not_false_eq_true] at hsplit) <;> try (exfalso; omega)) | refine Pick.au ?_ | refine store_au ?_ | refine Any.mk (fun _ => ?_) | refine Both.mk ?_ ?_)); all_goals (try (conv => whnf))
    · exact Done.mk (by rw [goodB_iff.2 ⟨h3, (str_eq _ _).1 (by simpa using hsplit)⟩]; rfl)
    · have e : goodB l = false := by
        rw [← Bool.not_eq_true, goodB_iff]
        rintro ⟨_, h⟩
        exact hsplit (by rw [h])
      rw [e]
      exact Done.mk rfl
  · have e : goodB l = false := by
      rw [← Bool.not_eq_true, goodB_iff]
      exact fun h => h3 h.1
    repeat' ((try (conv => whnf)); (first | refine Pick.mk pm83_1 (by decide +kernel) ?_ | refine Pick.mk pl83_1 (by decide +kernel) ?_ | refine Need.au ?_ | (refine Split.mk (fun hsplit => ?_) (fun hsplit => ?_) <;> (try simp only [List.cons.injEq, and_true, true_and, not_true_eq_false, not_false_eq_true] at hsplit) <;> try (exfalso; omega)) | refine Pick.au ?_ | refine store_au ?_ | refine Any.mk (fun _ => ?_) | refine Both.mk ?_ ?_)); all_goals (try (conv => whnf))
    rw [e]
    exact Done.mk rfl
/-- Bytes as a number, the highest first. -/
def beS (l : List B8) : BitVec 32 := l.foldl (fun s c => (s <<< 8) ||| c.setWidth 32) 0#32
theorem beS_next (l : List B8) (i : Nat) (h : i < l.length) : beS (l.take (i + 1)) = (beS (l.take i) <<< 8) ||| (l.getD i 0).setWidth 32 := by
  unfold beS
  rw [List.take_succ_eq_append_getElem h, List.foldl_append, List.getD_eq_getElem?_getD, List.getElem?_eq_getElem h]
  rfl
theorem crc_high (bs : List Bool) (i : Nat) (h : 24 ≤ i) : (crcOf bs).getLsbD i = false := by
  unfold crcOf
  have step : ∀ (bs : List Bool) (s : BitVec 32), s.getLsbD i = false → (bs.foldl crcStep s).getLsbD i = false := by
    intro bs
    induction bs with
    | nil => intro s hs; exact hs
    | cons b r ih =>
      intro s hs
      refine ih _ ?_
      have hp : (0x5D6DCB#32).getLsbD i = false := by
        rcases Nat.lt_or_ge i 32 with h2 | h2
        · have : ∀ j : Fin 32, 24 ≤ j.val → (0x5D6DCB#32).getLsbD j.val = false := by decide
          exact this ⟨i, h2⟩ h
        · exact BitVec.getLsbD_of_ge _ _ h2
      unfold crcStep
      by_cases hc : (s >>> 23 &&& 1#32) ^^^ (if b then 1#32 else 0#32) = 1#32
      · rw [if_pos hc, BitVec.getLsbD_xor, BitVec.getLsbD_and, mask32, hp, decide_eq_false (by omega)]; simp
      · rw [if_neg hc, BitVec.getLsbD_and, mask32, decide_eq_false (by omega)]; simp
  refine step bs _ ?_
  rcases Nat.lt_or_ge i 32 with h2 | h2
  · have : ∀ j : Fin 32, 24 ≤ j.val → (0xFEDCBA#32).getLsbD j.val = false := by decide
    exact this ⟨i, h2⟩ h
  · exact BitVec.getLsbD_of_ge _ _ h2
theorem beS3 (x0 x1 x2 : B8) : beS [x0, x1, x2] = ((x0.setWidth 32 <<< 8 ||| x1.setWidth 32) <<< 8) ||| x2.setWidth 32 := by
  show (((0#32 <<< 8 ||| x0.setWidth 32) <<< 8 ||| x1.setWidth 32) <<< 8) ||| x2.setWidth 32 = _
  simp
theorem fix_beS (x0 x1 x2 : B8) : fixT (beS [x0, x1, x2]) = [x0, x1, x2] := by
  have g : ∀ (x : B8) (i : Nat), 8 ≤ i → x.getLsbD i = false := fun x i h => BitVec.getLsbD_of_ge _ _ h
  rw [beS3]
  unfold fixT
  simp only [List.cons.injEq, and_true]
  refine ⟨?_, ?_, ?_⟩
  · apply BitVec.eq_of_getLsbD_eq
    intro i hi
    simp only [BitVec.getLsbD_setWidth, BitVec.getLsbD_ushiftRight, BitVec.getLsbD_or, BitVec.getLsbD_shiftLeft]
    rw [g x2 (16 + i) (by omega), g x1 (16 + i - 8) (by omega), show 16 + i - 8 - 8 = i by omega]
    simp [hi, show 16 + i < 32 by omega, show 16 + i - 8 < 32 by omega, show i < 32 by omega, show ¬ (16 + i < 8) by omega, show ¬ (16 + i - 8 < 8) by omega]
  · apply BitVec.eq_of_getLsbD_eq
    intro i hi
    simp only [BitVec.getLsbD_setWidth, BitVec.getLsbD_ushiftRight, BitVec.getLsbD_or, BitVec.getLsbD_shiftLeft]
    rw [g x2 (8 + i) (by omega), show 8 + i - 8 = i by omega]
    simp [hi, show 8 + i < 32 by omega, show i < 32 by omega, show ¬ (8 + i < 8) by omega]
  · apply BitVec.eq_of_getLsbD_eq
    intro i hi
    simp only [BitVec.getLsbD_setWidth, BitVec.getLsbD_or, BitVec.getLsbD_shiftLeft]
    simp [hi, show i < 32 by omega]
theorem beS_fix (t : BitVec 32) (h : ∀ i, 24 ≤ i → t.getLsbD i = false) : beS (fixT t) = t := by
  unfold fixT
  rw [beS3]
  apply BitVec.eq_of_getLsbD_eq
  intro i hi
  simp only [BitVec.getLsbD_setWidth, BitVec.getLsbD_ushiftRight, BitVec.getLsbD_or, BitVec.getLsbD_shiftLeft]
  by_cases h1 : i < 8
  · simp [h1, hi]
  · by_cases h2 : i < 16
    · simp [h1, hi, show i - 8 < 8 by omega, show i - 8 < 32 by omega, show 8 + (i - 8) = i by omega]
    · by_cases h3 : i < 24
      · simp [h1, hi, show ¬ (i - 8 < 8) by omega, show i - 8 < 32 by omega, show i - 8 - 8 < 32 by omega, show i - 8 - 8 < 8 by omega, show 16 + (i - 8 - 8) = i by omega]
      · rw [h i (by omega)]
        simp [h1, hi, show ¬ (i - 8 < 8) by omega, show i - 8 < 32 by omega, show ¬ (i - 8 - 8 < 8) by omega]
theorem good_sum {l : List B8} {x0 x1 x2 : B8} (hlx : l = l.take (l.length - 3) ++ [x0, x1, x2]) (h3 : 3 ≤ l.length) : goodB l = true ↔ beS [x0, x1, x2] = crcSum (l.take (l.length - 3)) := by
  rw [goodB_iff]
  unfold fixB
  constructor
  · rintro ⟨_, h⟩
    have h2 := List.append_cancel_left (h.trans hlx)
    rw [← h2]
    exact beS_fix _ (fun i hi => crc_high _ i hi)
  · intro h
    refine ⟨h3, ?_⟩
    rw [← h, fix_beS]
    exact hlx.symm
theorem cgood_v (A : Option Addr) (l : List B8) (ck : Nat) (hlk : l.length ≤ 140737488351232) (hck : l.length ≤ ck) (w : World) (hA : At w A (l.map b8)) : Val Tryz.prog 96 [.slice A l.length ck] w (.bool (goodB l)) := by
  refine val_vc tab_ok Tryz.func96 rfl rfl ?_
  by_cases h3 : 3 ≤ l.length
  · have hT : (((l.length : Nat) : Int) - 3).toNat = (l.take (l.length - 3)).length := by rw [List.length_take]; omega
    have hD : (l.drop (l.length - 3)).length = 3 := by rw [List.length_drop]; omega
    obtain ⟨x0, x1, x2, hx⟩ : ∃ x0 x1 x2, l.drop (l.length - 3) = [x0, x1, x2] := by
      match h : l.drop (l.length - 3), hD with
      | [x0, x1, x2], _ => exact ⟨x0, x1, x2, rfl⟩
    have hlx : l = l.take (l.length - 3) ++ [x0, x1, x2] := by rw [← hx, List.take_append_drop]
    have hN : (((l.length : Nat) : Int) - 3).toNat = l.length - 3 := by omega
    repeat' ((try (conv => whnf)); (first | refine Need.au ?_ | (refine Split.mk (fun hsplit => ?_) (fun hsplit => ?_) <;> (try simp only [List.cons.injEq, and_true, true_and, not_true_eq_false, not_false_eq_true] at hsplit) <;> try (exfalso; omega)) | refine Pick.au ?_ | refine store_au ?_ | refine Any.mk (fun _ => ?_) | refine Both.mk ?_ ?_)); all_goals (try (conv => whnf))
    have hC : At w (if ck = l.length - 3 then A else Option.map (fun x => x.add ((l.length - 3) * ty5.size)) A) ((l.drop (l.length - 3)).map b8) := hA.cutB (l := l.length - 3) (c := ck) hck
    rw [hN]
    rw [hx] at hC
    rw [show l.length - (l.length - 3) = 3 by omega]
    generalize (if ck = l.length - 3 then A else Option.map (fun x => x.add ((l.length - 3) * ty5.size)) A) = A' at *
    obtain ⟨a, rfl⟩ := hC.is (by show 0 < 3; omega)
    refine LoopVC.mk (fun m env hs => ∃ (i : Nat) (xi : Int), xi = i ∧ i + m = 3 ∧ env = [(0, .slice A l.length ck), (3, .int .i64 ((l.length : Int) - 3)), (4, w32 (beS ([x0, x1, x2].take i))), (14, .slice (some a) 3 (ck - (l.length - 3))), (15, .int .i64 3), (16, .int .i64 xi)] ∧ hs = []) 3
      (Weak.mk (Sub.cons rfl (Sub.cons rfl (Sub.cons rfl (Sub.cons rfl (Sub.cons rfl (Sub.cons rfl Sub.nil)))))) (List.Sublist.refl _) ⟨0, 0, by omega, by omega, rfl, rfl⟩) ?_
    rintro m env hs ⟨i, xi, hxi, hj, rfl, rfl⟩
    by_cases h3i : i < 3
    · have hxn : xi.toNat = i := by omega
      have hnx := beS_next [x0, x1, x2] i h3i
      repeat' ((try (conv => whnf)); (first | (rw [hxn]; refine Pick.mk _ (cell_arg hC (by simp) h3i) ?_) | refine Pick.mk _ (shl_u32 (beS ([x0, x1, x2].take i)) 8 (by omega) (by omega)) ?_ | refine Pick.mk _ (conv_u8_32 _) ?_ | refine Pick.mk _ (or_u32 _ _) ?_ | refine Need.au ?_ | (refine Split.mk (fun hsplit => ?_) (fun hsplit => ?_) <;> (try simp only [List.cons.injEq, and_true, true_and, not_true_eq_false, not_false_eq_true] at hsplit) <;> try (exfalso; omega)) | refine Pick.au ?_ | refine store_au ?_ | refine Any.mk (fun _ => ?_) | refine Both.mk ?_ ?_)); all_goals (try (conv => whnf))
      exact again (m - 1) (by omega) (Sub.cons rfl (Sub.cons rfl (Sub.cons rfl (Sub.cons rfl (Sub.cons rfl (Sub.cons rfl Sub.nil)))))) (List.Sublist.refl _) ⟨i + 1, xi + 1, by omega, by omega, by rw [hnx], rfl⟩
    · obtain rfl : i = 3 := by omega
      repeat' ((try (conv => whnf)); (first | (rw [slice_cut0, hT]; refine CallVC.val (fun w2 h2 => csum_v A (l.take (l.length - 3)) ck (by rw [List.length_take]; omega) w2 ((hA.takeB _).here h2 (fun _ _ => by simp))) ?_) | refine Need.au ?_ | (refine Split.mk (fun hsplit => ?_) (fun hsplit => ?_) <;> (try simp only [List.cons.injEq, and_true, true_and, not_true_eq_false, not_false_eq_true] at hsplit) <;> try (exfalso; omega)) | refine Pick.au ?_ | refine store_au ?_ | refine Any.mk (fun _ => ?_) | refine Both.mk ?_ ?_)); all_goals (try (conv => whnf))
      · have e : goodB l = true := (good_sum hlx h3).2 (BitVec.eq_of_toNat_eq (by have h9 : (((beS [x0, x1, x2]).toNat : Nat) : Int) = ((crcSum (List.take (l.length - 3) l)).toNat : Nat) := hsplit; omega))
        rw [e]
        exact Done.mk rfl
      · have e : goodB l = false := by
          rw [← Bool.not_eq_true, good_sum hlx h3]
          exact fun h => hsplit (by rw [← h]; rfl)
        rw [e]
        exact Done.mk rfl
  · have e : goodB l = false := by
      rw [← Bool.not_eq_true, goodB_iff]
      exact fun h => h3 h.1
    repeat' ((try (conv => whnf)); (first | refine Need.au ?_ | (refine Split.mk (fun hsplit => ?_) (fun hsplit => ?_) <;> (try simp only [List.cons.injEq, and_true, true_and, not_true_eq_false, not_false_eq_true] at hsplit) <;> try (exfalso; omega)) | refine Pick.au ?_ | refine store_au ?_ | refine Any.mk (fun _ => ?_) | refine Both.mk ?_ ?_)); all_goals (try (conv => whnf))
    rw [e]
    exact Done.mk rfl
end Go.Proofs.YtnlheljpagpiiaaGreat
