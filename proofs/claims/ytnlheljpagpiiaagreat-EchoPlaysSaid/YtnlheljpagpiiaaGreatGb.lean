/-
  Bits that are read, in the program: numbers, rows of bytes, the end; every input.
-/
import Derived.Test.YtnlheljpagpiiaaGreatGa
set_option linter.unusedVariables false
set_option linter.unusedSimpArgs false
set_option maxRecDepth 100000
set_option maxHeartbeats 8000000
namespace Go.Proofs.YtnlheljpagpiiaaGreat
open Go
attribute [local irreducible] bitsOf shlOf shrOf pack numBits numOf bytesBits rowAt
section
variable {G : Cx} {hs : Hp}
/-- The reader's bits, one behind the other. -/
theorem CallVC.takeW {K : Value → Hp → Prop} {rp : Nat} {A : Option Addr} {C p wd : Nat} {r1 : Hp} (l : List B8) (hP : G.P = Tryz.prog) (hl : l.length ≤ 140737488351232) (h1 : Take (rE rp A l.length C p) hs r1) (hwd : wd ≤ 64) (hfit : p + wd ≤ 8 * l.length) (hA : ∀ w, St G hs w → At w A (l.map b8)) (hd : l ≠ [] → ∀ a, A = some a → a.block ∉ [rp])
    (hk : K (w64 (numOf (((bytesBits l).drop p).take wd))) (rE rp A l.length C (p + wd) :: r1)) : CallVC G hs 171 [.pointer (some ⟨rp, 0, none⟩), .int .i64 (wd : Int)] K := by
  refine CallVC.mutT [rE rp A l.length C p] r1 h1.perm (fun w2 h2 h3 => hP ▸ take_m rp A l C p wd hl hwd hfit w2 (hA w2 h2) hd (hP ▸ h3)) ?_
  rintro v H ⟨rfl, rfl⟩
  exact hk
end
theorem get_yes (rp : Nat) (A : Option Addr) (l : List B8) (C p wd : Nat) (hl : l.length ≤ 140737488351232) (hwd : wd ≤ 64) (hfit : p + wd ≤ 8 * l.length) (w : World) (hA : At w A (l.map b8)) (hd : l ≠ [] → ∀ a, A = some a → a.block ∉ [rp]) (hw : St ⟨Tryz.prog, w, [rp]⟩ [rE rp A l.length C p] w) :
    Mut Tryz.prog 156 [.pointer (some ⟨rp, 0, none⟩), .int .i64 (wd : Int)] w [rE rp A l.length C p] fun v hs2 => ∃ H, List.Sublist H hs2 ∧ v = .tuple #[w64 (numOf (((bytesBits l).drop p).take wd)), .int .i64 0] ∧ H = [rE rp A l.length C (p + wd)] := by
  refine mut_vc tab_ok Tryz.func156 rfl rfl hw ?_
  repeat' ((try (conv => whnf)); (first | refine CallVC.val (fun w2 h2 => rdnone_v rp A l.length C p w2 (at_in (List.Mem.head _) h2)) ?_ | refine CallVC.val (fun w2 h2 => left_v rp A l.length C p (by omega) (by omega) w2 (at_in (List.Mem.head _) h2)) ?_ | refine CallVC.takeW l rfl hl (by repeat (first | exact Take.head _ | apply Take.tail)) hwd hfit (fun w2 h2 => hA.here2 h2 hd) hd ?_ | refine Need.au ?_ | (refine Split.mk (fun hsplit => ?_) (fun hsplit => ?_) <;> (try simp only [List.cons.injEq, and_true, true_and, not_true_eq_false, not_false_eq_true] at hsplit) <;> try (exfalso; omega)) | refine Pick.au ?_ | refine store_au ?_ | refine Any.mk (fun _ => ?_) | refine Both.mk ?_ ?_)); all_goals (try (conv => whnf))
  exact Done.mk ⟨_, List.Sublist.refl _, rfl, rfl⟩
theorem get_no (rp : Nat) (A : Option Addr) (l : List B8) (C p wd : Nat) (hl : l.length ≤ 140737488351232) (hwd : wd ≤ 64) (hp : p ≤ 8 * l.length) (hfit : ¬ p + wd ≤ 8 * l.length) (w : World) (hw : St ⟨Tryz.prog, w, [rp]⟩ [rE rp A l.length C p] w) :
    Mut Tryz.prog 156 [.pointer (some ⟨rp, 0, none⟩), .int .i64 (wd : Int)] w [rE rp A l.length C p] fun v hs2 => ∃ H, List.Sublist H hs2 ∧ v = .tuple #[w64 0#64, .int .i64 3] ∧ H = [rE rp A l.length C p] := by
  refine mut_vc tab_ok Tryz.func156 rfl rfl hw ?_
  repeat' ((try (conv => whnf)); (first | refine CallVC.val (fun w2 h2 => rdnone_v rp A l.length C p w2 (at_in (List.Mem.head _) h2)) ?_ | refine CallVC.val (fun w2 h2 => left_v rp A l.length C p (by omega) hp w2 (at_in (List.Mem.head _) h2)) ?_ | refine Need.au ?_ | (refine Split.mk (fun hsplit => ?_) (fun hsplit => ?_) <;> (try simp only [List.cons.injEq, and_true, true_and, not_true_eq_false, not_false_eq_true] at hsplit) <;> try (exfalso; omega)) | refine Pick.au ?_ | refine store_au ?_ | refine Any.mk (fun _ => ?_) | refine Both.mk ?_ ?_)); all_goals (try (conv => whnf))
  exact Done.mk ⟨_, List.Sublist.refl _, rfl, rfl⟩
theorem conv_64_8 (x : BitVec 64) : ((x.setWidth 8).toNat : Int) = IntKind.u8.wrap (x.toNat : Int) := conv_u64_8 x
theorem own_b1 {b2 c2 : Nat} (hc2 : 1 ≤ c2) (x : B8) : Own (some ⟨b2, 0, none⟩) ([] ++ [x]) c2 [⟨b2, ([x] : List B8).map b8 ++ zerosL (c2 - 1) ty5.zero, 5, (0, 0)⟩] := by
  have h := Own.row b2 [x] (zerosL (c2 - 1) ty5.zero) (0, 0) soft0
  rw [show (([x] : List B8).map b8 ++ zerosL (c2 - 1) ty5.zero).length = c2 by rw [List.length_append, zw_len]; simp; omega] at h
  exact h
/-- What a row of bytes that is read comes to: a row of the call's own, or none. -/
def ReadRow (xs : List B8) (e : Int) (rp : Nat) (A : Option Addr) (L C p : Nat) (v : Value) (H : Hp) : Prop := ∃ B c E, v = .tuple #[.slice B xs.length c, .int .i64 e] ∧ Own B xs c E ∧ H = E ++ [rE rp A L C p]
theorem rdbytes_yes (rp : Nat) (A : Option Addr) (l : List B8) (C p n : Nat) (hl : l.length ≤ 140737488351232) (hn : n ≤ 1024) (hfit : p + 8 * n ≤ 8 * l.length) (w : World) (hA : At w A (l.map b8)) (hd : l ≠ [] → ∀ a, A = some a → a.block ∉ [rp]) (hw : St ⟨Tryz.prog, w, [rp]⟩ [rE rp A l.length C p] w) :
    Mut Tryz.prog 155 [.pointer (some ⟨rp, 0, none⟩), .int .i64 (n : Int)] w [rE rp A l.length C p] fun v hs2 => ∃ H, List.Sublist H hs2 ∧ ReadRow (rowAt (bytesBits l) p n) 0 rp A l.length C (p + 8 * n) v H := by
  refine mut_vc tab_ok Tryz.func155 rfl rfl hw ?_
  repeat' ((try (conv => whnf)); (first | refine CallVC.val (fun w2 h2 => rdnone_v rp A l.length C p w2 (at_in (List.Mem.head _) h2)) ?_ | refine CallVC.val (fun w2 h2 => left_v rp A l.length C p (by omega) (by omega) w2 (at_in (List.Mem.head _) h2)) ?_ | refine Need.au ?_ | (refine Split.mk (fun hsplit => ?_) (fun hsplit => ?_) <;> (try simp only [List.cons.injEq, and_true, true_and, not_true_eq_false, not_false_eq_true] at hsplit) <;> try (exfalso; omega)) | refine Pick.au ?_ | refine store_au ?_ | refine Any.mk (fun _ => ?_) | refine Both.mk ?_ ?_)); all_goals (try (conv => whnf))
  have h0 : rowAt (bytesBits l) p 0 = [] := by unfold rowAt; rfl
  refine LoopVC.mk (fun m env hs => ∃ (i : Nat) (xi : Int) (B : Option Addr) (c : Nat) (E : Hp), xi = i ∧ i + m = n ∧ Own B (rowAt (bytesBits l) p i) c E ∧ env = [(0, .pointer (some ⟨rp, 0, none⟩)), (6, .slice B i c), (27, .int .i64 (n : Int)), (28, .int .i64 xi)] ∧ hs = E ++ [rE rp A l.length C (p + 8 * i)]) n
    (Weak.mk (Sub.cons rfl (Sub.cons rfl (Sub.cons rfl (Sub.cons rfl Sub.nil)))) (List.Sublist.refl _) ⟨0, 0, none, 0, [], rfl, by omega, by rw [h0]; exact Own.none, rfl, rfl⟩) ?_
  rintro m env hs ⟨i, xi, B, c, E, hxi, hj, hO, rfl, rfl⟩
  have hrl := rowAt_len (bytesBits l) p i
  by_cases hin : i < n
  · have hnx := rowAt_next (bytesBits l) p i
    generalize rowAt (bytesBits l) p i = row at *
    cases hO with
    | none =>
      obtain rfl : i = 0 := hrl.symm
      repeat' ((try (conv => whnf)); (first | refine CallVC.takeW l rfl hl (by repeat (first | exact Take.head _ | apply Take.tail)) (wd := 8) (by decide) (by omega) (fun w2 h2 => hA.here2 h2 hd) hd ?_ | refine Pick.mk _ (conv_64_8 _) ?_ | (refine AppendVC.nil (xs := ([(numOf (((bytesBits l).drop (p + 8 * 0)).take 8)).setWidth 8] : List B8).map b8) tab_ok ap8 (Holds.row rfl (cellsAre_whole (by repeat (first | exact List.Mem.head _ | refine List.Mem.tail _ ?_)))) (by decide) (fun h0 => by cases h0) (fun _ b2 c2 hc2 => ?_)) | refine Need.au ?_ | (refine Split.mk (fun hsplit => ?_) (fun hsplit => ?_) <;> (try simp only [List.cons.injEq, and_true, true_and, not_true_eq_false, not_false_eq_true] at hsplit) <;> try (exfalso; omega)) | refine Pick.au ?_ | refine store_au ?_ | refine Any.mk (fun _ => ?_) | refine Both.mk ?_ ?_)); all_goals (try (conv => whnf))
      exact again (m - 1) (by omega) (Sub.cons rfl (Sub.cons rfl (Sub.cons rfl (Sub.cons rfl Sub.nil)))) (List.Sublist.cons_cons _ (List.Sublist.cons _ (List.Sublist.refl _))) ⟨1, xi + 1, some ⟨b2, 0, none⟩, c2, _, by omega, by omega, by rw [hnx]; exact own_b1 hc2 _, rfl, rfl⟩
    | row b5 _ r fr hf =>
      repeat' ((try (conv => whnf)); (first | refine CallVC.takeW l rfl hl (by repeat (first | exact Take.head _ | apply Take.tail)) (wd := 8) (by decide) (by omega) (fun w2 h2 => hA.here2 h2 hd) hd ?_ | refine Pick.mk _ (conv_64_8 _) ?_ | (refine AppendVC.bytes (xs := row) (ys := [(numOf (((bytesBits l).drop (p + 8 * i)).take 8)).setWidth 8]) tab_ok ap8 rfl (by repeat (first | exact Take.head _ | apply Take.tail)) hf rfl hrl (Holds.row rfl (cellsAre_whole (by repeat (first | exact List.Mem.head _ | refine List.Mem.tail _ ?_)))) (by show (2 * (_ + _) + 192) * 1 ≤ _; omega) (fun b6 r6 fr6 hf6 => ?_)) | refine Need.au ?_ | (refine Split.mk (fun hsplit => ?_) (fun hsplit => ?_) <;> (try simp only [List.cons.injEq, and_true, true_and, not_true_eq_false, not_false_eq_true] at hsplit) <;> try (exfalso; omega)) | refine Pick.au ?_ | refine store_au ?_ | refine Any.mk (fun _ => ?_) | refine Both.mk ?_ ?_)); all_goals (try (conv => whnf))
      exact again (m - 1) (by omega) (Sub.cons rfl (Sub.cons rfl (Sub.cons rfl (Sub.cons rfl Sub.nil)))) (List.Sublist.cons_cons _ (List.Sublist.cons _ (List.Sublist.refl _))) ⟨i + 1, xi + 1, some ⟨b6, 0, none⟩, _, _, by omega, by omega, by rw [hnx]; exact Own.row b6 _ r6 fr6 hf6, rfl, rfl⟩
  · obtain rfl : i = n := by omega
    repeat' ((try (conv => whnf)); (first | refine Need.au ?_ | (refine Split.mk (fun hsplit => ?_) (fun hsplit => ?_) <;> (try simp only [List.cons.injEq, and_true, true_and, not_true_eq_false, not_false_eq_true] at hsplit) <;> try (exfalso; omega)) | refine Pick.au ?_ | refine store_au ?_ | refine Any.mk (fun _ => ?_) | refine Both.mk ?_ ?_)); all_goals (try (conv => whnf))
    exact Done.mk ⟨_, List.Sublist.refl _, B, c, E, by rw [hrl]; rfl, hO, rfl⟩
theorem rdbytes_no (rp : Nat) (A : Option Addr) (l : List B8) (C p n : Nat) (hl : l.length ≤ 140737488351232) (hn : n ≤ 1024) (hp : p ≤ 8 * l.length) (hfit : ¬ p + 8 * n ≤ 8 * l.length) (w : World) (hw : St ⟨Tryz.prog, w, [rp]⟩ [rE rp A l.length C p] w) :
    Mut Tryz.prog 155 [.pointer (some ⟨rp, 0, none⟩), .int .i64 (n : Int)] w [rE rp A l.length C p] fun v hs2 => ∃ H, List.Sublist H hs2 ∧ ReadRow [] 3 rp A l.length C p v H := by
  refine mut_vc tab_ok Tryz.func155 rfl rfl hw ?_
  repeat' ((try (conv => whnf)); (first | refine CallVC.val (fun w2 h2 => rdnone_v rp A l.length C p w2 (at_in (List.Mem.head _) h2)) ?_ | refine CallVC.val (fun w2 h2 => left_v rp A l.length C p (by omega) hp w2 (at_in (List.Mem.head _) h2)) ?_ | refine Need.au ?_ | (refine Split.mk (fun hsplit => ?_) (fun hsplit => ?_) <;> (try simp only [List.cons.injEq, and_true, true_and, not_true_eq_false, not_false_eq_true] at hsplit) <;> try (exfalso; omega)) | refine Pick.au ?_ | refine store_au ?_ | refine Any.mk (fun _ => ?_) | refine Both.mk ?_ ?_)); all_goals (try (conv => whnf))
  exact Done.mk ⟨_, List.Sublist.refl _, none, 0, [], rfl, Own.none, rfl⟩
theorem all_drop_next {bs : List Bool} {p : Nat} (h : p < bs.length) : (bs.drop p).all (! ·) = ((! bs.getD p false) && (bs.drop (p + 1)).all (! ·)) := by
  rw [List.drop_eq_getElem_cons h, List.all_cons, List.getD_eq_getElem?_getD, List.getElem?_eq_getElem h]
  rfl
theorem rdend_v (rp : Nat) (A : Option Addr) (l : List B8) (C p : Nat) (hl : l.length ≤ 140737488351232) (hp : p ≤ 8 * l.length) (w : World) (hR : At w (some ⟨rp, 0, none⟩) (rE rp A l.length C p).cs) (hA : At w A (l.map b8)) :
    Val Tryz.prog 99 [.pointer (some ⟨rp, 0, none⟩)] w (if endOk (bytesBits l) p then .int .i64 0 else .int .i64 4) := by
  have hbl := bytesBits_len l
  refine val_vc tab_ok Tryz.func99 rfl rfl ?_
  by_cases h8 : 8 * l.length - p < 8
  · have hE : endOk (bytesBits l) p = ((bytesBits l).drop p).all (! ·) := by
      unfold endOk
      rw [hbl, decide_eq_true h8, Bool.true_and]
    rw [hE]
    repeat' ((try (conv => whnf)); (first | refine CallVC.val (fun w2 h2 => rdnone_v rp A l.length C p w2 (hR.here h2 (fun _ _ => by simp))) ?_ | refine CallVC.val (fun w2 h2 => left_v rp A l.length C p (by omega) hp w2 (hR.here h2 (fun _ _ => by simp))) ?_ | refine Pick.mk _ (cell_known hR (by simp) rfl) ?_ | refine Need.au ?_ | (refine Split.mk (fun hsplit => ?_) (fun hsplit => ?_) <;> (try simp only [List.cons.injEq, and_true, true_and, not_true_eq_false, not_false_eq_true] at hsplit) <;> try (exfalso; omega)) | refine Pick.au ?_ | refine store_au ?_ | refine Any.mk (fun _ => ?_) | refine Both.mk ?_ ?_)); all_goals (try (conv => whnf))
    refine LoopVC.mk (fun m env hs => ∃ (q : Nat) (xq : Int), xq = q ∧ q + m = 8 * l.length ∧ ((bytesBits l).drop p).all (! ·) = ((bytesBits l).drop q).all (! ·) ∧ env = [(0, .pointer (some ⟨rp, 0, none⟩)), (3, .int .i64 xq)] ∧ hs = []) (8 * l.length - p)
      (Weak.mk (Sub.cons rfl (Sub.cons rfl Sub.nil)) (List.nil_sublist _) ⟨p, p, rfl, by omega, rfl, rfl, rfl⟩) ?_
    rintro m env hs ⟨q, xq, hxq, hm, hall, rfl, rfl⟩
    subst hxq
    by_cases hq : q < 8 * l.length
    · have hnx := all_drop_next (bs := bytesBits l) (p := q) (by omega)
      cases hb : (bytesBits l).getD q false
      · rw [hb, Bool.not_false, Bool.true_and] at hnx
        repeat' ((try (conv => whnf)); (first | refine Pick.mk _ (cell_known hR (by simp) rfl) ?_ | (refine CallVC.val (fun w2 h2 => bit_v rp A l C _ _ q hq (by omega) w2 (hR.here h2 (fun _ _ => by simp)) (hA.here h2 (fun _ _ => by simp))) ?_; rw [hb]) | refine Need.au ?_ | (refine Split.mk (fun hsplit => ?_) (fun hsplit => ?_) <;> (try simp only [List.cons.injEq, and_true, true_and, not_true_eq_false, not_false_eq_true] at hsplit) <;> try (exfalso; omega)) | refine Pick.au ?_ | refine store_au ?_ | refine Any.mk (fun _ => ?_) | refine Both.mk ?_ ?_)); all_goals (try (conv => whnf))
        all_goals first | exact again (m - 1) (by omega) (Sub.cons rfl (Sub.cons rfl Sub.nil)) (List.Sublist.refl _) ⟨q + 1, (q : Int) + 1, by omega, by omega, by rw [hall, hnx], rfl, rfl⟩ | (exfalso; exact hsplit rfl)
      · rw [hb, Bool.not_true, Bool.false_and] at hnx
        repeat' ((try (conv => whnf)); (first | refine Pick.mk _ (cell_known hR (by simp) rfl) ?_ | (refine CallVC.val (fun w2 h2 => bit_v rp A l C _ _ q hq (by omega) w2 (hR.here h2 (fun _ _ => by simp)) (hA.here h2 (fun _ _ => by simp))) ?_; rw [hb]) | refine Need.au ?_ | (refine Split.mk (fun hsplit => ?_) (fun hsplit => ?_) <;> (try simp only [List.cons.injEq, and_true, true_and, not_true_eq_false, not_false_eq_true] at hsplit) <;> try (exfalso; omega)) | refine Pick.au ?_ | refine store_au ?_ | refine Any.mk (fun _ => ?_) | refine Both.mk ?_ ?_)); all_goals (try (conv => whnf))
        all_goals first | exact Done.mk (by rw [hall, hnx]; rfl) | (exfalso; exact absurd hsplit (by decide))
    · obtain rfl : q = 8 * l.length := by omega
      repeat' ((try (conv => whnf)); (first | refine Pick.mk _ (cell_known hR (by simp) rfl) ?_ | refine Need.au ?_ | (refine Split.mk (fun hsplit => ?_) (fun hsplit => ?_) <;> (try simp only [List.cons.injEq, and_true, true_and, not_true_eq_false, not_false_eq_true] at hsplit) <;> try (exfalso; omega)) | refine Pick.au ?_ | refine store_au ?_ | refine Any.mk (fun _ => ?_) | refine Both.mk ?_ ?_)); all_goals (try (conv => whnf))
      exact Done.mk (by rw [hall, List.drop_of_length_le (by omega)]; rfl)
  · have hE : endOk (bytesBits l) p = false := by
      unfold endOk
      rw [hbl, decide_eq_false h8, Bool.false_and]
    rw [hE]
    repeat' ((try (conv => whnf)); (first | refine CallVC.val (fun w2 h2 => rdnone_v rp A l.length C p w2 (hR.here h2 (fun _ _ => by simp))) ?_ | refine CallVC.val (fun w2 h2 => left_v rp A l.length C p (by omega) hp w2 (hR.here h2 (fun _ _ => by simp))) ?_ | refine Need.au ?_ | (refine Split.mk (fun hsplit => ?_) (fun hsplit => ?_) <;> (try simp only [List.cons.injEq, and_true, true_and, not_true_eq_false, not_false_eq_true] at hsplit) <;> try (exfalso; omega)) | refine Pick.au ?_ | refine store_au ?_ | refine Any.mk (fun _ => ?_) | refine Both.mk ?_ ?_)); all_goals (try (conv => whnf))
    exact Done.mk rfl
theorem newreader_r (A : Option Addr) (l : List B8) (c : Nat) (hl : l.length ≤ 140737488351232) (w : World) (hA : At w A (l.map b8)) :
    Ret Tryz.prog 97 [.slice A l.length c] w fun v hs => ∃ rp rb, v = .pointer (some ⟨rp, 0, none⟩) ∧ List.Sublist [rE rp (some ⟨rb, 0, none⟩) l.length l.length 0, ⟨rb, l.map b8, 5, (0, 0)⟩] hs := by
  refine ret_vc tab_ok Tryz.func97 rfl rfl ?_
  repeat' ((try (conv => whnf)); (first | refine Need.mk ⟨by omega, by omega, by show (l.length : Int) * 1 ≤ _; omega, by decide⟩ ?_ | (refine CopyVC.bytes (ys := l) tab_ok rfl rfl rfl rfl (Holds.at (by rw [List.length_map]) hA (by simp)) (by repeat (first | exact Upd.head _ | apply Upd.tail)) (by omega) (by rw [zw_len]; omega) soft0 ?_) | refine Need.au ?_ | (refine Split.mk (fun hsplit => ?_) (fun hsplit => ?_) <;> (try simp only [List.cons.injEq, and_true, true_and, not_true_eq_false, not_false_eq_true] at hsplit) <;> try (exfalso; omega)) | refine Pick.au ?_ | refine store_au ?_ | refine Any.mk (fun _ => ?_) | refine Both.mk ?_ ?_)); all_goals (try (conv => whnf))
  rw [Int.toNat_natCast, List.drop_of_length_le (by rw [zw_len]; exact Nat.le_refl _), List.append_nil]
  exact Done.mk ⟨_, _, rfl, List.Sublist.refl _⟩
end Go.Proofs.YtnlheljpagpiiaaGreat
