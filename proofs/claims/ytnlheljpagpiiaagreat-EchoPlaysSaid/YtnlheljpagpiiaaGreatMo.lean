/-
  Bits that are read, in the document: numbers, rows of bytes, the end; every input. Frames that are read, in the program: numbers, rows, all of a frame; every input.
-/
import Derived.Test.YtnlheljpagpiiaaGreatGb
namespace Go.Proofs.YtnlheljpagpiiaaGreat
section
set_option linter.unusedVariables false
set_option linter.unusedSimpArgs false
set_option maxRecDepth 100000
set_option maxHeartbeats 8000000
open Go
attribute [local irreducible] bitsOf shlOf shrOf pack numBits numOf bytesBits rowAt
theorem bit_and8 (c : B8) (k : Nat) : (((c >>> k) &&& 1#8).setWidth 64) = if c.getLsbD k then 1#64 else 0#64 := by
  rw [← bit_u8_64]
  apply BitVec.eq_of_getLsbD_eq
  intro i hi
  rw [BitVec.getLsbD_and, BitVec.getLsbD_setWidth, BitVec.getLsbD_setWidth, BitVec.getLsbD_and]
  cases i with
  | zero => simp
  | succ i =>
    have e1 : (1#64 : BitVec 64).getLsbD (i + 1) = false := by simp [BitVec.getLsbD_one]
    have e2 : (1#8 : BitVec 8).getLsbD (i + 1) = false := by simp [BitVec.getLsbD_one]
    rw [e1, e2]; simp
theorem numOf_zero : ∀ (n : Nat) (xs : List Bool), xs.length = n → n ≤ 64 → (numOf xs = 0#64 ↔ xs.all (! ·) = true)
  | 0, xs, h, _ => by
    rw [List.eq_nil_of_length_eq_zero h]
    unfold numOf
    simp
  | n + 1, xs, h, hn => by
    obtain ⟨ys, b, rfl⟩ : ∃ ys b, xs = ys ++ [b] := ⟨xs.dropLast, xs.getLast (by intro e; rw [e] at h; cases h), (List.dropLast_concat_getLast _).symm⟩
    have hy : ys.length = n := by rw [List.length_append] at h; simpa using h
    have ih := numOf_zero n ys hy (by omega)
    have hlt := numOf_lt n ys hy (by omega)
    have h63 : 2 ^ n ≤ 2 ^ 63 := Nat.pow_le_pow_right (by decide) (by omega)
    have hor := or_bit (numOf ys) b
    rw [numOf_end, List.all_append, Bool.and_eq_true, ← ih]
    rw [Nat.mod_eq_of_lt (by cases b <;> simp <;> omega)] at hor
    constructor
    · intro h0
      have e : ((numOf ys <<< 1) ||| (if b then 1#64 else 0#64)).toNat = 0 := by rw [h0]; rfl
      rw [hor] at e
      cases b
      · refine ⟨BitVec.eq_of_toNat_eq ?_, rfl⟩
        show _ = 0
        simp at e
        omega
      · simp at e
    · rintro ⟨h1, h2⟩
      cases b
      · apply BitVec.eq_of_toNat_eq
        rw [hor, h1]
        rfl
      · simp at h2
/-- The document's reader. -/
abbrev qE (rp : Nat) (A : Option Addr) (L C p : Nat) : Ent := ⟨rp, [.slice A L C, .int .i64 (p : Int)], 136, (0, 0)⟩
theorem rleft_v (rp : Nat) (A : Option Addr) (L C p : Nat) (hL : L ≤ 140737488351232) (hp : p ≤ 8 * L) (w : World) (hR : At w (some ⟨rp, 0, none⟩) (qE rp A L C p).cs) : Val Tryz.prog 121 [.pointer (some ⟨rp, 0, none⟩)] w (.int .i64 (8 * (L : Int) - p)) := by
  refine val_vc tab_ok Tryz.func121 rfl rfl ?_
  repeat' ((try (conv => whnf)); (first | refine Pick.mk _ (cell_known hR (by simp) rfl) ?_ | refine Pick.mk pl121_1 (by decide +kernel) ?_ | refine Need.au ?_ | (refine Split.mk (fun hsplit => ?_) (fun hsplit => ?_) <;> (try simp only [List.cons.injEq, and_true, true_and, not_true_eq_false, not_false_eq_true] at hsplit) <;> try (exfalso; omega)) | refine Pick.au ?_ | refine store_au ?_ | refine Any.mk (fun _ => ?_) | refine Both.mk ?_ ?_)); all_goals (try (conv => whnf))
  all_goals exact Done.mk rfl
theorem rget_yes (rp : Nat) (A : Option Addr) (l : List B8) (C p wd : Nat) (hl : l.length ≤ 140737488351232) (hwd : wd ≤ 64) (hfit : p + wd ≤ 8 * l.length) (w : World) (hA : At w A (l.map b8)) (hd : l ≠ [] → ∀ a, A = some a → a.block ∉ [rp]) (hw : St ⟨Tryz.prog, w, [rp]⟩ [qE rp A l.length C p] w) :
    Mut Tryz.prog 122 [.pointer (some ⟨rp, 0, none⟩), .int .i64 (wd : Int)] w [qE rp A l.length C p] fun v hs2 => ∃ H, List.Sublist H hs2 ∧ v = .tuple #[w64 (numOf (((bytesBits l).drop p).take wd)), .int .i64 0] ∧ H = [qE rp A l.length C (p + wd)] := by
  have hbl := bytesBits_len l
  refine mut_vc tab_ok Tryz.func122 rfl rfl hw ?_
  repeat' ((try (conv => whnf)); (first | refine CallVC.val (fun w2 h2 => rleft_v rp A l.length C p hl (by omega) w2 (at_in (List.Mem.head _) h2)) ?_ | refine Pick.mk pl122_9 (by decide +kernel) ?_ | refine Need.au ?_ | (refine Split.mk (fun hsplit => ?_) (fun hsplit => ?_) <;> (try simp only [List.cons.injEq, and_true, true_and, not_true_eq_false, not_false_eq_true] at hsplit) <;> try (exfalso; omega)) | refine Pick.au ?_ | refine store_au ?_ | refine Any.mk (fun _ => ?_) | refine Both.mk ?_ ?_)); all_goals (try (conv => whnf))
  refine LoopVC.mk (fun m env hs => ∃ (j : Nat) (xj : Int), xj = j ∧ j + m = wd ∧ env = [(0, .pointer (some ⟨rp, 0, none⟩)), (1, .int .i64 (wd : Int)), (6, w64 (numOf (((bytesBits l).drop p).take j))), (7, .int .i64 xj)] ∧ hs = [qE rp A l.length C (p + j)]) wd
    (Weak.mk (Sub.cons rfl (Sub.cons rfl (Sub.cons (by unfold numOf; rfl) (Sub.cons rfl Sub.nil)))) (List.Sublist.refl _) ⟨0, 0, rfl, by omega, rfl, rfl⟩) ?_
  rintro m env hs ⟨j, xj, hxj, hj, rfl, rfl⟩
  by_cases hjw : j < wd
  · have hn := rd_next (bs := bytesBits l) (p := p) (j := j) (by omega)
    obtain ⟨a, rfl⟩ := hA.is (by rw [List.length_map]; omega)
    have hd2 := hd (by intro h; rw [h] at hfit; simp at hfit; omega) a rfl
    have hq : (((p + j : Nat) : Int) / 8).toNat = (p + j) / 8 := by omega
    have hr : (7 - ((p + j : Nat) : Int) % 8).toNat = 7 - (p + j) % 8 := by omega
    have hg := bytesBits_get l ((p + j) / 8) ((p + j) % 8) (by omega) (by omega)
    rw [show 8 * ((p + j) / 8) + (p + j) % 8 = p + j by omega] at hg
    repeat' ((try (conv => whnf)); (first | (rw [hq]; refine Pick.mk _ (cell_arg hA hd2 (by omega)) ?_) | refine Pick.mk _ (shl_u64 (numOf (((bytesBits l).drop p).take j)) 1 (by omega) (by omega)) ?_ | refine Pick.mk _ (shr_u8 (l.getD ((p + j) / 8) 0) _ (by omega) (by omega)) ?_ | refine Pick.mk _ (and_u8 _ 1#8) ?_ | refine Pick.mk _ (conv_u8_64 _) ?_ | refine Pick.mk _ (or_u64 _ _) ?_ | refine Pick.mk pl122_9 (by decide +kernel) ?_ | refine Need.au ?_ | (refine Split.mk (fun hsplit => ?_) (fun hsplit => ?_) <;> (try simp only [List.cons.injEq, and_true, true_and, not_true_eq_false, not_false_eq_true] at hsplit) <;> try (exfalso; omega)) | refine Pick.au ?_ | refine store_au ?_ | refine Any.mk (fun _ => ?_) | refine Both.mk ?_ ?_)); all_goals (try (conv => whnf))
    rw [hr, bit_and8, ← hg]
    exact again (m - 1) (by omega) (Sub.cons rfl (Sub.cons rfl (Sub.cons rfl (Sub.cons rfl Sub.nil)))) (List.Sublist.refl _) ⟨j + 1, xj + 1, by omega, by omega, by rw [hn, numOf_end], by rw [← Nat.add_assoc]; rfl⟩
  · obtain rfl : j = wd := by omega
    repeat' ((try (conv => whnf)); (first | refine Pick.mk pl122_9 (by decide +kernel) ?_ | refine Need.au ?_ | (refine Split.mk (fun hsplit => ?_) (fun hsplit => ?_) <;> (try simp only [List.cons.injEq, and_true, true_and, not_true_eq_false, not_false_eq_true] at hsplit) <;> try (exfalso; omega)) | refine Pick.au ?_ | refine store_au ?_ | refine Any.mk (fun _ => ?_) | refine Both.mk ?_ ?_)); all_goals (try (conv => whnf))
    exact Done.mk ⟨_, List.Sublist.refl _, rfl, rfl⟩
theorem rget_no (rp : Nat) (A : Option Addr) (l : List B8) (C p wd : Nat) (hl : l.length ≤ 140737488351232) (hwd : wd ≤ 64) (hp : p ≤ 8 * l.length) (hfit : ¬ p + wd ≤ 8 * l.length) (w : World) (hw : St ⟨Tryz.prog, w, [rp]⟩ [qE rp A l.length C p] w) :
    Mut Tryz.prog 122 [.pointer (some ⟨rp, 0, none⟩), .int .i64 (wd : Int)] w [qE rp A l.length C p] fun v hs2 => ∃ H, List.Sublist H hs2 ∧ v = .tuple #[w64 0#64, .int .i64 3] ∧ H = [qE rp A l.length C p] := by
  refine mut_vc tab_ok Tryz.func122 rfl rfl hw ?_
  repeat' ((try (conv => whnf)); (first | refine CallVC.val (fun w2 h2 => rleft_v rp A l.length C p hl hp w2 (at_in (List.Mem.head _) h2)) ?_ | refine Pick.mk pl122_9 (by decide +kernel) ?_ | refine Need.au ?_ | (refine Split.mk (fun hsplit => ?_) (fun hsplit => ?_) <;> (try simp only [List.cons.injEq, and_true, true_and, not_true_eq_false, not_false_eq_true] at hsplit) <;> try (exfalso; omega)) | refine Pick.au ?_ | refine store_au ?_ | refine Any.mk (fun _ => ?_) | refine Both.mk ?_ ?_)); all_goals (try (conv => whnf))
  exact Done.mk ⟨_, List.Sublist.refl _, rfl, rfl⟩
section
variable {G : Cx} {hs : Hp}
theorem CallVC.rgetW {K : Value → Hp → Prop} {rp : Nat} {A : Option Addr} {C p wd : Nat} {r1 : Hp} (l : List B8) (hP : G.P = Tryz.prog) (hl : l.length ≤ 140737488351232) (h1 : Take (qE rp A l.length C p) hs r1) (hwd : wd ≤ 64) (hfit : p + wd ≤ 8 * l.length) (hA : ∀ w, St G hs w → At w A (l.map b8)) (hd : ∀ w, St G hs w → l ≠ [] → ∀ a, A = some a → a.block ∉ [rp])
    (hk : K (.tuple #[w64 (numOf (((bytesBits l).drop p).take wd)), .int .i64 0]) (qE rp A l.length C (p + wd) :: r1)) : CallVC G hs 122 [.pointer (some ⟨rp, 0, none⟩), .int .i64 (wd : Int)] K := by
  refine CallVC.mutT [qE rp A l.length C p] r1 h1.perm (fun w2 h2 h3 => hP ▸ rget_yes rp A l C p wd hl hwd hfit w2 (hA w2 h2) (hd w2 h2) (hP ▸ h3)) ?_
  rintro v H ⟨rfl, rfl⟩
  exact hk
end
/-- What a row of bytes that is read comes to, in the document. -/
def RReadRow (xs : List B8) (e : Int) (rp : Nat) (A : Option Addr) (L C p : Nat) (v : Value) (H : Hp) : Prop := ∃ B c E, v = .tuple #[.slice B xs.length c, .int .i64 e] ∧ Own B xs c E ∧ H = E ++ [qE rp A L C p]
theorem rrdbytes_yes (rp : Nat) (A : Option Addr) (l : List B8) (C p n : Nat) (hl : l.length ≤ 140737488351232) (hn : n ≤ 1024) (hfit : p + 8 * n ≤ 8 * l.length) (w : World) (hA : At w A (l.map b8)) (hd : l ≠ [] → ∀ a, A = some a → a.block ∉ [rp]) (hw : St ⟨Tryz.prog, w, [rp]⟩ [qE rp A l.length C p] w) :
    Mut Tryz.prog 152 [.pointer (some ⟨rp, 0, none⟩), .int .i64 (n : Int)] w [qE rp A l.length C p] fun v hs2 => ∃ H, List.Sublist H hs2 ∧ RReadRow (rowAt (bytesBits l) p n) 0 rp A l.length C (p + 8 * n) v H := by
  refine mut_vc tab_ok Tryz.func152 rfl rfl hw ?_
  repeat' ((try (conv => whnf)); (first | refine CallVC.val (fun w2 h2 => rleft_v rp A l.length C p hl (by omega) w2 (at_in (List.Mem.head _) h2)) ?_ | refine Need.au ?_ | (refine Split.mk (fun hsplit => ?_) (fun hsplit => ?_) <;> (try simp only [List.cons.injEq, and_true, true_and, not_true_eq_false, not_false_eq_true] at hsplit) <;> try (exfalso; omega)) | refine Pick.au ?_ | refine store_au ?_ | refine Any.mk (fun _ => ?_) | refine Both.mk ?_ ?_)); all_goals (try (conv => whnf))
  have h0 : rowAt (bytesBits l) p 0 = [] := by unfold rowAt; rfl
  refine LoopVC.mk (fun m env hs => ∃ (i : Nat) (xi : Int) (B : Option Addr) (c : Nat) (E : Hp), xi = i ∧ i + m = n ∧ Own B (rowAt (bytesBits l) p i) c E ∧ env = [(0, .pointer (some ⟨rp, 0, none⟩)), (1, .int .i64 (n : Int)), (6, .slice B i c), (7, .int .i64 xi)] ∧ hs = E ++ [qE rp A l.length C (p + 8 * i)]) n
    (Weak.mk (Sub.cons rfl (Sub.cons rfl (Sub.cons rfl (Sub.cons rfl Sub.nil)))) (List.Sublist.refl _) ⟨0, 0, none, 0, [], rfl, by omega, by rw [h0]; exact Own.none, rfl, rfl⟩) ?_
  rintro m env hs ⟨i, xi, B, c, E, hxi, hj, hO, rfl, rfl⟩
  have hrl := rowAt_len (bytesBits l) p i
  by_cases hin : i < n
  · have hnx := rowAt_next (bytesBits l) p i
    generalize rowAt (bytesBits l) p i = row at *
    cases hO with
    | none =>
      obtain rfl : i = 0 := hrl.symm
      repeat' ((try (conv => whnf)); (first | refine CallVC.rgetW l rfl hl (by repeat (first | exact Take.head _ | apply Take.tail)) (wd := 8) (by decide) (by omega) (fun w2 h2 => hA.here2 h2 hd) (fun _ _ => hd) ?_ | refine Pick.mk _ (conv_64_8 _) ?_ | (refine AppendVC.nil (xs := ([(numOf (((bytesBits l).drop (p + 8 * 0)).take 8)).setWidth 8] : List B8).map b8) tab_ok ap8 (Holds.row rfl (cellsAre_whole (by repeat (first | exact List.Mem.head _ | refine List.Mem.tail _ ?_)))) (by decide) (fun h0 => by cases h0) (fun _ b2 c2 hc2 => ?_)) | refine Need.au ?_ | (refine Split.mk (fun hsplit => ?_) (fun hsplit => ?_) <;> (try simp only [List.cons.injEq, and_true, true_and, not_true_eq_false, not_false_eq_true] at hsplit) <;> try (exfalso; omega)) | refine Pick.au ?_ | refine store_au ?_ | refine Any.mk (fun _ => ?_) | refine Both.mk ?_ ?_)); all_goals (try (conv => whnf))
      exact again (m - 1) (by omega) (Sub.cons rfl (Sub.cons rfl (Sub.cons rfl (Sub.cons rfl Sub.nil)))) (List.Sublist.cons_cons _ (List.Sublist.cons _ (List.Sublist.refl _))) ⟨1, xi + 1, some ⟨b2, 0, none⟩, c2, _, by omega, by omega, by rw [hnx]; exact own_b1 hc2 _, rfl, rfl⟩
    | row b5 _ r fr hf =>
      repeat' ((try (conv => whnf)); (first | refine CallVC.rgetW l rfl hl (by repeat (first | exact Take.head _ | apply Take.tail)) (wd := 8) (by decide) (by omega) (fun w2 h2 => hA.here2 h2 hd) (fun _ _ => hd) ?_ | refine Pick.mk _ (conv_64_8 _) ?_ | (refine AppendVC.bytes (xs := row) (ys := [(numOf (((bytesBits l).drop (p + 8 * i)).take 8)).setWidth 8]) tab_ok ap8 rfl (by repeat (first | exact Take.head _ | apply Take.tail)) hf rfl hrl (Holds.row rfl (cellsAre_whole (by repeat (first | exact List.Mem.head _ | refine List.Mem.tail _ ?_)))) (by show (2 * (_ + _) + 192) * 1 ≤ _; omega) (fun b6 r6 fr6 hf6 => ?_)) | refine Need.au ?_ | (refine Split.mk (fun hsplit => ?_) (fun hsplit => ?_) <;> (try simp only [List.cons.injEq, and_true, true_and, not_true_eq_false, not_false_eq_true] at hsplit) <;> try (exfalso; omega)) | refine Pick.au ?_ | refine store_au ?_ | refine Any.mk (fun _ => ?_) | refine Both.mk ?_ ?_)); all_goals (try (conv => whnf))
      exact again (m - 1) (by omega) (Sub.cons rfl (Sub.cons rfl (Sub.cons rfl (Sub.cons rfl Sub.nil)))) (List.Sublist.cons_cons _ (List.Sublist.cons _ (List.Sublist.refl _))) ⟨i + 1, xi + 1, some ⟨b6, 0, none⟩, _, _, by omega, by omega, by rw [hnx]; exact Own.row b6 _ r6 fr6 hf6, rfl, rfl⟩
  · obtain rfl : i = n := by omega
    repeat' ((try (conv => whnf)); (first | refine Need.au ?_ | (refine Split.mk (fun hsplit => ?_) (fun hsplit => ?_) <;> (try simp only [List.cons.injEq, and_true, true_and, not_true_eq_false, not_false_eq_true] at hsplit) <;> try (exfalso; omega)) | refine Pick.au ?_ | refine store_au ?_ | refine Any.mk (fun _ => ?_) | refine Both.mk ?_ ?_)); all_goals (try (conv => whnf))
    exact Done.mk ⟨_, List.Sublist.refl _, B, c, E, by rw [hrl]; rfl, hO, rfl⟩
theorem rrdbytes_no (rp : Nat) (A : Option Addr) (l : List B8) (C p n : Nat) (hl : l.length ≤ 140737488351232) (hn : n ≤ 1024) (hp : p ≤ 8 * l.length) (hfit : ¬ p + 8 * n ≤ 8 * l.length) (w : World) (hw : St ⟨Tryz.prog, w, [rp]⟩ [qE rp A l.length C p] w) :
    Mut Tryz.prog 152 [.pointer (some ⟨rp, 0, none⟩), .int .i64 (n : Int)] w [qE rp A l.length C p] fun v hs2 => ∃ H, List.Sublist H hs2 ∧ RReadRow [] 3 rp A l.length C p v H := by
  refine mut_vc tab_ok Tryz.func152 rfl rfl hw ?_
  repeat' ((try (conv => whnf)); (first | refine CallVC.val (fun w2 h2 => rleft_v rp A l.length C p hl hp w2 (at_in (List.Mem.head _) h2)) ?_ | refine Need.au ?_ | (refine Split.mk (fun hsplit => ?_) (fun hsplit => ?_) <;> (try simp only [List.cons.injEq, and_true, true_and, not_true_eq_false, not_false_eq_true] at hsplit) <;> try (exfalso; omega)) | refine Pick.au ?_ | refine store_au ?_ | refine Any.mk (fun _ => ?_) | refine Both.mk ?_ ?_)); all_goals (try (conv => whnf))
  exact Done.mk ⟨_, List.Sublist.refl _, none, 0, [], rfl, Own.none, rfl⟩
theorem rrdend_v (rp : Nat) (A : Option Addr) (l : List B8) (C p : Nat) (hl : l.length ≤ 140737488351232) (hp : p ≤ 8 * l.length) (w : World) (hR : At w (some ⟨rp, 0, none⟩) (qE rp A l.length C p).cs) (hA : At w A (l.map b8)) :
    Val Tryz.prog 85 [.pointer (some ⟨rp, 0, none⟩)] w (if endOk (bytesBits l) p then .int .i64 0 else .int .i64 4) := by
  have hbl := bytesBits_len l
  refine val_vc tab_ok Tryz.func85 rfl rfl ?_
  by_cases h8 : 8 * l.length - p < 8
  · have hE : endOk (bytesBits l) p = ((bytesBits l).drop p).all (! ·) := by
      unfold endOk
      rw [hbl, decide_eq_true h8, Bool.true_and]
    have htk : ((bytesBits l).drop p).take (8 * l.length - p) = (bytesBits l).drop p := List.take_of_length_le (by rw [List.length_drop, hbl]; exact Nat.le_refl _)
    have hz := numOf_zero (8 * l.length - p) ((bytesBits l).drop p) (by rw [List.length_drop, hbl]) (by omega)
    have hcast : (8 * (l.length : Int) - (p : Int)) = ((8 * l.length - p : Nat) : Int) := by omega
    rw [hE]
    repeat' ((try (conv => whnf)); (first | refine Pick.mk _ (cell_known hR (by simp) rfl) ?_ | refine CallVC.val (fun w2 h2 => rleft_v _ A l.length C p hl hp w2 (at_in (List.Mem.head _) h2)) ?_ | (rw [hcast]; refine CallVC.rgetW l rfl hl (by repeat (first | exact Take.head _ | apply Take.tail)) (wd := 8 * l.length - p) (by omega) (by omega) (fun w2 h2 => hA.here h2 (by simp)) (fun w2 h2 hx a ha => (ha ▸ hA : At w (some a) _).news (by simpa using hx) (by simp) h2 (pre := [_]) (rest := []) (List.Perm.refl _)) ?_; rw [htk]) | refine Pick.mk pl85_1 (by decide +kernel) ?_ | refine Need.au ?_ | (refine Split.mk (fun hsplit => ?_) (fun hsplit => ?_) <;> (try simp only [List.cons.injEq, and_true, true_and, not_true_eq_false, not_false_eq_true] at hsplit) <;> try (exfalso; omega)) | refine Pick.au ?_ | refine store_au ?_ | refine Any.mk (fun _ => ?_) | refine Both.mk ?_ ?_)); all_goals (try (conv => whnf))
    · exact Done.mk (if_pos (hz.1 (BitVec.eq_of_toNat_eq (by have h9 : (((numOf ((bytesBits l).drop p)).toNat : Nat) : Int) = 0 := hsplit; show _ = 0; omega)))).symm
    · exact Done.mk (if_neg (fun h => hsplit (by rw [hz.2 h]; rfl))).symm
  · have hE : endOk (bytesBits l) p = false := by
      unfold endOk
      rw [hbl, decide_eq_false h8, Bool.false_and]
    rw [hE]
    repeat' ((try (conv => whnf)); (first | refine Pick.mk _ (cell_known hR (by simp) rfl) ?_ | refine CallVC.val (fun w2 h2 => rleft_v _ A l.length C p hl hp w2 (at_in (List.Mem.head _) h2)) ?_ | refine Pick.mk pl85_1 (by decide +kernel) ?_ | refine Need.au ?_ | (refine Split.mk (fun hsplit => ?_) (fun hsplit => ?_) <;> (try simp only [List.cons.injEq, and_true, true_and, not_true_eq_false, not_false_eq_true] at hsplit) <;> try (exfalso; omega)) | refine Pick.au ?_ | refine store_au ?_ | refine Any.mk (fun _ => ?_) | refine Both.mk ?_ ?_)); all_goals (try (conv => whnf))
    exact Done.mk rfl
end
section
set_option linter.unusedVariables false
set_option linter.unusedSimpArgs false
set_option maxRecDepth 100000
set_option maxHeartbeats 8000000
open Go
attribute [local irreducible] bitsOf shlOf shrOf pack numBits numOf bytesBits rowAt
section
variable {G : Cx} {hs : Hp}
/-- A callee that changes what it is handed; what is known behind it in another order. -/
theorem CallVC.mutP {f : Nat} {args : List Value} {K : Value → Hp → Prop} {R : Value → Hp → Prop} (pre rest : Hp) (hp : hs.Perm (pre ++ rest))
    (hc : ∀ w, St G hs w → St ⟨G.P, w, ids pre⟩ pre w → Mut G.P f args w pre fun v hs2 => ∃ L, List.Sublist L hs2 ∧ R v L) (hk : ∀ v L, R v L → ∃ L', (L ++ rest).Perm L' ∧ K v L') : CallVC G hs f args K := by
  refine ⟨K, fun w hw => (hc w hw (hw.only hp)).calls.mono ?_, fun _ _ h => h⟩
  rintro e w' ⟨v, hs2, rfl, ⟨L, hL, hr⟩, hst⟩
  obtain ⟨L', hp', hk'⟩ := hk v L hr
  exact ⟨v, L', rfl, hk', ((hw.transM hp hst).sub (hL.append_right rest)).perm hp'⟩
theorem CallVC.getY {K : Value → Hp → Prop} {rp : Nat} {A : Option Addr} {C p wd : Nat} {r1 : Hp} (l : List B8) (hP : G.P = Tryz.prog) (hl : l.length ≤ 140737488351232) (h1 : Take (rE rp A l.length C p) hs r1) (hwd : wd ≤ 64) (hfit : p + wd ≤ 8 * l.length) (hA : ∀ w, St G hs w → At w A (l.map b8)) (hd : l ≠ [] → ∀ a, A = some a → a.block ∉ [rp])
    (hk : K (.tuple #[w64 (numOf (((bytesBits l).drop p).take wd)), .int .i64 0]) (rE rp A l.length C (p + wd) :: r1)) : CallVC G hs 156 [.pointer (some ⟨rp, 0, none⟩), .int .i64 (wd : Int)] K := by
  refine CallVC.mutT [rE rp A l.length C p] r1 h1.perm (fun w2 h2 h3 => hP ▸ get_yes rp A l C p wd hl hwd hfit w2 (hA w2 h2) hd (hP ▸ h3)) ?_
  rintro v H ⟨rfl, rfl⟩
  exact hk
theorem CallVC.getN {K : Value → Hp → Prop} {rp : Nat} {A : Option Addr} {C p wd : Nat} {r1 : Hp} (l : List B8) (hP : G.P = Tryz.prog) (hl : l.length ≤ 140737488351232) (h1 : Take (rE rp A l.length C p) hs r1) (hwd : wd ≤ 64) (hp : p ≤ 8 * l.length) (hfit : ¬ p + wd ≤ 8 * l.length)
    (hk : K (.tuple #[w64 0#64, .int .i64 3]) (rE rp A l.length C p :: r1)) : CallVC G hs 156 [.pointer (some ⟨rp, 0, none⟩), .int .i64 (wd : Int)] K := by
  refine CallVC.mutT [rE rp A l.length C p] r1 h1.perm (fun w2 h2 h3 => hP ▸ get_no rp A l C p wd hl hwd hp hfit w2 (hP ▸ h3)) ?_
  rintro v H ⟨rfl, rfl⟩
  exact hk
theorem CallVC.rowY {K : Value → Hp → Prop} {rp : Nat} {A : Option Addr} {C p n : Nat} {r1 : Hp} (l : List B8) (hP : G.P = Tryz.prog) (hl : l.length ≤ 140737488351232) (h1 : Take (rE rp A l.length C p) hs r1) (hn : n ≤ 1024) (hfit : p + 8 * n ≤ 8 * l.length) (hA : ∀ w, St G hs w → At w A (l.map b8)) (hd : l ≠ [] → ∀ a, A = some a → a.block ∉ [rp])
    (hk : ∀ B c E, Own B (rowAt (bytesBits l) p n) c E → K (.tuple #[.slice B (rowAt (bytesBits l) p n).length c, .int .i64 0]) (rE rp A l.length C (p + 8 * n) :: (r1 ++ E))) : CallVC G hs 155 [.pointer (some ⟨rp, 0, none⟩), .int .i64 (n : Int)] K := by
  refine CallVC.mutP [rE rp A l.length C p] r1 h1.perm (fun w2 h2 h3 => hP ▸ rdbytes_yes rp A l C p n hl hn hfit w2 (hA w2 h2) hd (hP ▸ h3)) ?_
  rintro v H ⟨B, c, E, rfl, hO, rfl⟩
  refine ⟨_, ?_, hk B c E hO⟩
  rw [List.append_assoc]
  exact List.perm_append_comm.trans (List.Perm.refl _)
theorem CallVC.rowN {K : Value → Hp → Prop} {rp : Nat} {A : Option Addr} {C p n : Nat} {r1 : Hp} (l : List B8) (hP : G.P = Tryz.prog) (hl : l.length ≤ 140737488351232) (h1 : Take (rE rp A l.length C p) hs r1) (hn : n ≤ 1024) (hp : p ≤ 8 * l.length) (hfit : ¬ p + 8 * n ≤ 8 * l.length)
    (hk : ∀ B c E, Own B [] c E → K (.tuple #[.slice B ([] : List B8).length c, .int .i64 3]) (rE rp A l.length C p :: (r1 ++ E))) : CallVC G hs 155 [.pointer (some ⟨rp, 0, none⟩), .int .i64 (n : Int)] K := by
  refine CallVC.mutP [rE rp A l.length C p] r1 h1.perm (fun w2 h2 h3 => hP ▸ rdbytes_no rp A l C p n hl hn hp hfit w2 (hP ▸ h3)) ?_
  rintro v H ⟨B, c, E, rfl, hO, rfl⟩
  refine ⟨_, ?_, hk B c E hO⟩
  rw [List.append_assoc]
  exact List.perm_append_comm.trans (List.Perm.refl _)
end
/-- The block of a frame's reader. -/
abbrev frE (fp rp : Nat) (lost : Bool) : Ent := ⟨fp, [.pointer (some ⟨rp, 0, none⟩), .bool lost], 158, (0, 0)⟩
theorem not_two {l : List B8} {A : Option Addr} {rp fp : Nat} (hd : l ≠ [] → ∀ a, A = some a → a.block ∉ [rp, fp]) : l ≠ [] → ∀ a, A = some a → a.block ∉ [rp] := fun hx a ha h => hd hx a ha (by rw [List.mem_singleton] at h; rw [h]; exact List.Mem.head _)
theorem fnum_m (fp rp : Nat) (A : Option Addr) (l : List B8) (C : Nat) (s : Rd) (wd : Nat) (hl : l.length ≤ 140737488351232) (hwd : wd ≤ 64) (hp : s.at_ ≤ 8 * l.length) (w : World) (hA : At w A (l.map b8)) (hd : l ≠ [] → ∀ a, A = some a → a.block ∉ [rp, fp]) (hw : St ⟨Tryz.prog, w, [rp, fp]⟩ [rE rp A l.length C s.at_, frE fp rp s.lost] w) :
    Mut Tryz.prog 135 [.pointer (some ⟨fp, 0, none⟩), .int .i64 (wd : Int)] w [rE rp A l.length C s.at_, frE fp rp s.lost] fun v hs2 => ∃ H, List.Sublist H hs2 ∧ v = w64 (s.num (bytesBits l) wd) ∧ H = [rE rp A l.length C (s.skip (bytesBits l) wd).at_, frE fp rp (s.skip (bytesBits l) wd).lost] := by
  have hbl := bytesBits_len l
  obtain ⟨p, lost⟩ := s
  dsimp only at hp
  unfold Rd.num Rd.skip
  dsimp only
  rw [hbl]
  by_cases hfit : p + wd ≤ 8 * l.length
  · rw [if_pos hfit, if_pos hfit]
    cases lost
    · refine mut_vc tab_ok Tryz.func135 rfl rfl hw ?_
      repeat' ((try (conv => whnf)); (first | refine CallVC.getY l rfl hl (by repeat (first | exact Take.head _ | apply Take.tail)) hwd (by omega) (fun w2 h2 => hA.here2 h2 hd) (not_two hd) ?_ | refine Need.au ?_ | (refine Split.mk (fun hsplit => ?_) (fun hsplit => ?_) <;> (try simp only [List.cons.injEq, and_true, true_and, not_true_eq_false, not_false_eq_true] at hsplit) <;> try (exfalso; omega)) | refine Pick.au ?_ | refine store_au ?_ | refine Any.mk (fun _ => ?_) | refine Both.mk ?_ ?_)); all_goals (try (conv => whnf))
      exact Done.mk ⟨_, List.Sublist.refl _, rfl, rfl⟩
    · refine mut_vc tab_ok Tryz.func135 rfl rfl hw ?_
      repeat' ((try (conv => whnf)); (first | refine CallVC.getY l rfl hl (by repeat (first | exact Take.head _ | apply Take.tail)) hwd (by omega) (fun w2 h2 => hA.here2 h2 hd) (not_two hd) ?_ | refine Need.au ?_ | (refine Split.mk (fun hsplit => ?_) (fun hsplit => ?_) <;> (try simp only [List.cons.injEq, and_true, true_and, not_true_eq_false, not_false_eq_true] at hsplit) <;> try (exfalso; omega)) | refine Pick.au ?_ | refine store_au ?_ | refine Any.mk (fun _ => ?_) | refine Both.mk ?_ ?_)); all_goals (try (conv => whnf))
      exact Done.mk ⟨_, List.Sublist.refl _, rfl, rfl⟩
  · rw [if_neg hfit, if_neg hfit]
    cases lost
    · refine mut_vc tab_ok Tryz.func135 rfl rfl hw ?_
      repeat' ((try (conv => whnf)); (first | refine CallVC.getN l rfl hl (by repeat (first | exact Take.head _ | apply Take.tail)) hwd hp (by omega) ?_ | refine Need.au ?_ | (refine Split.mk (fun hsplit => ?_) (fun hsplit => ?_) <;> (try simp only [List.cons.injEq, and_true, true_and, not_true_eq_false, not_false_eq_true] at hsplit) <;> try (exfalso; omega)) | refine Pick.au ?_ | refine store_au ?_ | refine Any.mk (fun _ => ?_) | refine Both.mk ?_ ?_)); all_goals (try (conv => whnf))
      exact Done.mk ⟨_, List.Sublist.refl _, rfl, rfl⟩
    · refine mut_vc tab_ok Tryz.func135 rfl rfl hw ?_
      repeat' ((try (conv => whnf)); (first | refine CallVC.getN l rfl hl (by repeat (first | exact Take.head _ | apply Take.tail)) hwd hp (by omega) ?_ | refine Need.au ?_ | (refine Split.mk (fun hsplit => ?_) (fun hsplit => ?_) <;> (try simp only [List.cons.injEq, and_true, true_and, not_true_eq_false, not_false_eq_true] at hsplit) <;> try (exfalso; omega)) | refine Pick.au ?_ | refine store_au ?_ | refine Any.mk (fun _ => ?_) | refine Both.mk ?_ ?_)); all_goals (try (conv => whnf))
      exact Done.mk ⟨_, List.Sublist.refl _, rfl, rfl⟩
section
variable {G : Cx} {hs : Hp}
theorem CallVC.fnum {K : Value → Hp → Prop} {fp rp : Nat} {A : Option Addr} {C wd : Nat} {r1 r2 : Hp} (l : List B8) (s : Rd) (hP : G.P = Tryz.prog) (hl : l.length ≤ 140737488351232) (h1 : Take (rE rp A l.length C s.at_) hs r1) (h2 : Take (frE fp rp s.lost) r1 r2) (hwd : wd ≤ 64) (hp : s.at_ ≤ 8 * l.length) (hA : ∀ w, St G hs w → At w A (l.map b8)) (hd : l ≠ [] → ∀ a, A = some a → a.block ∉ [rp, fp])
    (hk : K (w64 (s.num (bytesBits l) wd)) (rE rp A l.length C (s.skip (bytesBits l) wd).at_ :: frE fp rp (s.skip (bytesBits l) wd).lost :: r2)) : CallVC G hs 135 [.pointer (some ⟨fp, 0, none⟩), .int .i64 (wd : Int)] K := by
  refine CallVC.mutT [rE rp A l.length C s.at_, frE fp rp s.lost] r2 (h1.perm.trans (List.Perm.cons _ h2.perm)) (fun w2 h2 h3 => hP ▸ fnum_m fp rp A l C s wd hl hwd hp w2 (hA w2 h2) hd (hP ▸ h3)) ?_
  rintro v H ⟨rfl, rfl⟩
  exact hk
end
theorem fint_m (fp rp : Nat) (A : Option Addr) (l : List B8) (C : Nat) (s : Rd) (wd : Nat) (hl : l.length ≤ 140737488351232) (hwd : wd ≤ 63) (hp : s.at_ ≤ 8 * l.length) (w : World) (hA : At w A (l.map b8)) (hd : l ≠ [] → ∀ a, A = some a → a.block ∉ [rp, fp]) (hw : St ⟨Tryz.prog, w, [rp, fp]⟩ [rE rp A l.length C s.at_, frE fp rp s.lost] w) :
    Mut Tryz.prog 133 [.pointer (some ⟨fp, 0, none⟩), .int .i64 (wd : Int)] w [rE rp A l.length C s.at_, frE fp rp s.lost] fun v hs2 => ∃ H, List.Sublist H hs2 ∧ v = .int .i64 ((s.num (bytesBits l) wd).toNat : Int) ∧ H = [rE rp A l.length C (s.skip (bytesBits l) wd).at_, frE fp rp (s.skip (bytesBits l) wd).lost] := by
  have hlt := Rd.num_lt (bytesBits l) s wd (by omega)
  have h63 : 2 ^ wd ≤ 2 ^ 63 := Nat.pow_le_pow_right (by decide) hwd
  refine mut_vc tab_ok Tryz.func133 rfl rfl hw ?_
  repeat' ((try (conv => whnf)); (first | refine CallVC.fnum l s rfl hl (by repeat (first | exact Take.head _ | apply Take.tail)) (by repeat (first | exact Take.head _ | apply Take.tail)) (by omega) hp (fun w2 h2 => hA.here2 h2 hd) hd ?_ | refine Need.au ?_ | (refine Split.mk (fun hsplit => ?_) (fun hsplit => ?_) <;> (try simp only [List.cons.injEq, and_true, true_and, not_true_eq_false, not_false_eq_true] at hsplit) <;> try (exfalso; omega)) | refine Pick.au ?_ | refine store_au ?_ | refine Any.mk (fun _ => ?_) | refine Both.mk ?_ ?_)); all_goals (try (conv => whnf))
  exact Done.mk ⟨_, List.Sublist.refl _, rfl, rfl⟩
theorem fbytes_m (fp rp : Nat) (A : Option Addr) (l : List B8) (C : Nat) (s : Rd) (n : Nat) (hl : l.length ≤ 140737488351232) (hn : n ≤ 1024) (hp : s.at_ ≤ 8 * l.length) (w : World) (hA : At w A (l.map b8)) (hd : l ≠ [] → ∀ a, A = some a → a.block ∉ [rp, fp]) (hw : St ⟨Tryz.prog, w, [rp, fp]⟩ [rE rp A l.length C s.at_, frE fp rp s.lost] w) :
    Mut Tryz.prog 134 [.pointer (some ⟨fp, 0, none⟩), .int .i64 (n : Int)] w [rE rp A l.length C s.at_, frE fp rp s.lost] fun v hs2 => ∃ H, List.Sublist H hs2 ∧ ∃ B c E, v = .slice B (s.row (bytesBits l) n).length c ∧ Own B (s.row (bytesBits l) n) c E ∧ H = rE rp A l.length C (s.skip (bytesBits l) (8 * n)).at_ :: frE fp rp (s.skip (bytesBits l) (8 * n)).lost :: E := by
  have hbl := bytesBits_len l
  obtain ⟨p, lost⟩ := s
  dsimp only at hp
  unfold Rd.row Rd.skip
  dsimp only
  rw [hbl]
  by_cases hfit : p + 8 * n ≤ 8 * l.length
  · rw [if_pos hfit, if_pos hfit]
    cases lost
    · refine mut_vc tab_ok Tryz.func134 rfl rfl hw ?_
      repeat' ((try (conv => whnf)); (first | (refine CallVC.rowY l rfl hl (by repeat (first | exact Take.head _ | apply Take.tail)) hn (by omega) (fun w2 h2 => hA.here2 h2 hd) (not_two hd) (fun B c E hO => ?_)) | refine Need.au ?_ | (refine Split.mk (fun hsplit => ?_) (fun hsplit => ?_) <;> (try simp only [List.cons.injEq, and_true, true_and, not_true_eq_false, not_false_eq_true] at hsplit) <;> try (exfalso; omega)) | refine Pick.au ?_ | refine store_au ?_ | refine Any.mk (fun _ => ?_) | refine Both.mk ?_ ?_)); all_goals (try (conv => whnf))
      exact Done.mk ⟨_, List.Sublist.refl _, B, c, E, rfl, hO, rfl⟩
    · refine mut_vc tab_ok Tryz.func134 rfl rfl hw ?_
      repeat' ((try (conv => whnf)); (first | (refine CallVC.rowY l rfl hl (by repeat (first | exact Take.head _ | apply Take.tail)) hn (by omega) (fun w2 h2 => hA.here2 h2 hd) (not_two hd) (fun B c E hO => ?_)) | refine Need.au ?_ | (refine Split.mk (fun hsplit => ?_) (fun hsplit => ?_) <;> (try simp only [List.cons.injEq, and_true, true_and, not_true_eq_false, not_false_eq_true] at hsplit) <;> try (exfalso; omega)) | refine Pick.au ?_ | refine store_au ?_ | refine Any.mk (fun _ => ?_) | refine Both.mk ?_ ?_)); all_goals (try (conv => whnf))
      exact Done.mk ⟨_, List.Sublist.refl _, B, c, E, rfl, hO, rfl⟩
  · rw [if_neg hfit, if_neg hfit]
    cases lost
    · refine mut_vc tab_ok Tryz.func134 rfl rfl hw ?_
      repeat' ((try (conv => whnf)); (first | (refine CallVC.rowN l rfl hl (by repeat (first | exact Take.head _ | apply Take.tail)) hn hp (by omega) (fun B c E hO => ?_)) | refine Need.au ?_ | (refine Split.mk (fun hsplit => ?_) (fun hsplit => ?_) <;> (try simp only [List.cons.injEq, and_true, true_and, not_true_eq_false, not_false_eq_true] at hsplit) <;> try (exfalso; omega)) | refine Pick.au ?_ | refine store_au ?_ | refine Any.mk (fun _ => ?_) | refine Both.mk ?_ ?_)); all_goals (try (conv => whnf))
      exact Done.mk ⟨_, List.Sublist.refl _, B, c, E, rfl, hO, rfl⟩
    · refine mut_vc tab_ok Tryz.func134 rfl rfl hw ?_
      repeat' ((try (conv => whnf)); (first | (refine CallVC.rowN l rfl hl (by repeat (first | exact Take.head _ | apply Take.tail)) hn hp (by omega) (fun B c E hO => ?_)) | refine Need.au ?_ | (refine Split.mk (fun hsplit => ?_) (fun hsplit => ?_) <;> (try simp only [List.cons.injEq, and_true, true_and, not_true_eq_false, not_false_eq_true] at hsplit) <;> try (exfalso; omega)) | refine Pick.au ?_ | refine store_au ?_ | refine Any.mk (fun _ => ?_) | refine Both.mk ?_ ?_)); all_goals (try (conv => whnf))
      exact Done.mk ⟨_, List.Sublist.refl _, B, c, E, rfl, hO, rfl⟩
section
variable {G : Cx} {hs : Hp}
theorem CallVC.fint {K : Value → Hp → Prop} {fp rp : Nat} {A : Option Addr} {C : Nat} {r1 r2 : Hp} (l : List B8) (s : Rd) (wd : Nat) (hP : G.P = Tryz.prog) (hl : l.length ≤ 140737488351232) (h1 : Take (rE rp A l.length C s.at_) hs r1) (h2 : Take (frE fp rp s.lost) r1 r2) (hwd : wd ≤ 63) (hp : s.at_ ≤ 8 * l.length) (hA : ∀ w, St G hs w → At w A (l.map b8)) (hd : l ≠ [] → ∀ a, A = some a → a.block ∉ [rp, fp])
    (hk : K (.int .i64 ((s.num (bytesBits l) wd).toNat : Int)) (rE rp A l.length C (s.skip (bytesBits l) wd).at_ :: frE fp rp (s.skip (bytesBits l) wd).lost :: r2)) : CallVC G hs 133 [.pointer (some ⟨fp, 0, none⟩), .int .i64 (wd : Int)] K := by
  refine CallVC.mutT [rE rp A l.length C s.at_, frE fp rp s.lost] r2 (h1.perm.trans (List.Perm.cons _ h2.perm)) (fun w2 h2 h3 => hP ▸ fint_m fp rp A l C s wd hl hwd hp w2 (hA w2 h2) hd (hP ▸ h3)) ?_
  rintro v H ⟨rfl, rfl⟩
  exact hk
theorem CallVC.fbytes {K : Value → Hp → Prop} {fp rp : Nat} {A : Option Addr} {C : Nat} {r1 r2 : Hp} (l : List B8) (s : Rd) (n : Nat) (hP : G.P = Tryz.prog) (hl : l.length ≤ 140737488351232) (h1 : Take (rE rp A l.length C s.at_) hs r1) (h2 : Take (frE fp rp s.lost) r1 r2) (hn : n ≤ 1024) (hp : s.at_ ≤ 8 * l.length) (hA : ∀ w, St G hs w → At w A (l.map b8)) (hd : l ≠ [] → ∀ a, A = some a → a.block ∉ [rp, fp])
    (hk : ∀ B c E, Own B (s.row (bytesBits l) n) c E → K (.slice B (s.row (bytesBits l) n).length c) (rE rp A l.length C (s.skip (bytesBits l) (8 * n)).at_ :: frE fp rp (s.skip (bytesBits l) (8 * n)).lost :: (r2 ++ E))) : CallVC G hs 134 [.pointer (some ⟨fp, 0, none⟩), .int .i64 (n : Int)] K := by
  refine CallVC.mutP [rE rp A l.length C s.at_, frE fp rp s.lost] r2 (h1.perm.trans (List.Perm.cons _ h2.perm)) (fun w2 h2 h3 => hP ▸ fbytes_m fp rp A l C s n hl hn hp w2 (hA w2 h2) hd (hP ▸ h3)) ?_
  rintro v H ⟨B, c, E, rfl, hO, rfl⟩
  exact ⟨_, List.Perm.cons _ (List.Perm.cons _ List.perm_append_comm), hk B c E hO⟩
end
end
end Go.Proofs.YtnlheljpagpiiaaGreat
