/-
  Bits that are read: what they are as numbers and rows of bytes; the program's reader; every input.
-/
import Derived.Test.YtnlheljpagpiiaaGreatFh
set_option linter.unusedVariables false
set_option linter.unusedSimpArgs false
set_option maxRecDepth 100000
set_option maxHeartbeats 8000000
namespace Go.Proofs.YtnlheljpagpiiaaGreat
open Go
attribute [local irreducible] bitsOf shlOf shrOf pack numBits
/-- Bits as a number, the highest first. -/
def numOf (xs : List Bool) : BitVec 64 := xs.foldl (fun n b => (n <<< 1) ||| (if b then 1#64 else 0#64)) 0#64
theorem numOf_end (xs : List Bool) (b : Bool) : numOf (xs ++ [b]) = (numOf xs <<< 1) ||| (if b then 1#64 else 0#64) := by simp [numOf]
theorem rd_next {bs : List Bool} {p j : Nat} (h : p + j < bs.length) : (bs.drop p).take (j + 1) = (bs.drop p).take j ++ [bs.getD (p + j) false] := by
  have h2 : j < (bs.drop p).length := by rw [List.length_drop]; omega
  rw [List.take_succ_eq_append_getElem h2, List.getElem_drop, List.getD_eq_getElem?_getD, List.getElem?_eq_getElem h]
  rfl
theorem or_bit (n : BitVec 64) (b : Bool) : ((n <<< 1) ||| (if b then 1#64 else 0#64)).toNat = (2 * n.toNat + (if b then 1 else 0)) % 18446744073709551616 := by
  rw [← BitVec.add_eq_or_of_and_eq_zero]
  · rw [BitVec.toNat_add, BitVec.toNat_shiftLeft, Nat.shiftLeft_eq]
    cases b <;> simp <;> omega
  · apply BitVec.eq_of_getLsbD_eq
    intro i hi
    cases i with
    | zero => cases b <;> simp
    | succ i => cases b <;> simp [BitVec.getLsbD_one]
theorem numOf_lt : ∀ (n : Nat) (xs : List Bool), xs.length = n → n ≤ 64 → (numOf xs).toNat < 2 ^ n
  | 0, xs, h, _ => by
    rw [List.eq_nil_of_length_eq_zero h]
    decide
  | n + 1, xs, h, hn => by
    obtain ⟨ys, b, rfl⟩ : ∃ ys b, xs = ys ++ [b] := ⟨xs.dropLast, xs.getLast (by intro e; rw [e] at h; cases h), (List.dropLast_concat_getLast _).symm⟩
    have hy : ys.length = n := by rw [List.length_append] at h; simpa using h
    have ih := numOf_lt n ys hy (by omega)
    rw [numOf_end, or_bit]
    have : (2 * (numOf ys).toNat + (if b then 1 else 0)) % 18446744073709551616 ≤ 2 * (numOf ys).toNat + (if b then 1 else 0) := Nat.mod_le _ _
    have h2 : (if b then 1 else 0 : Nat) ≤ 1 := by cases b <;> simp
    rw [Nat.pow_succ]
    omega
/-- Where one reads, and whether bits were missing. -/
structure Rd where
  at_ : Nat
  lost : Bool
def Rd.num (bs : List Bool) (s : Rd) (wd : Nat) : BitVec 64 := if s.at_ + wd ≤ bs.length then numOf ((bs.drop s.at_).take wd) else 0#64
def Rd.skip (bs : List Bool) (s : Rd) (wd : Nat) : Rd := if s.at_ + wd ≤ bs.length then ⟨s.at_ + wd, s.lost⟩ else ⟨s.at_, true⟩
def rowAt (bs : List Bool) (p n : Nat) : List B8 := (List.range n).map fun i => (numOf ((bs.drop (p + 8 * i)).take 8)).setWidth 8
def Rd.row (bs : List Bool) (s : Rd) (n : Nat) : List B8 := if s.at_ + 8 * n ≤ bs.length then rowAt bs s.at_ n else []
theorem rowAt_len (bs : List Bool) (p n : Nat) : (rowAt bs p n).length = n := by simp [rowAt]
theorem rowAt_next (bs : List Bool) (p n : Nat) : rowAt bs p (n + 1) = rowAt bs p n ++ [(numOf ((bs.drop (p + 8 * n)).take 8)).setWidth 8] := by simp [rowAt, List.range_succ]
theorem Rd.skip_le {bs : List Bool} {s : Rd} (h : s.at_ ≤ bs.length) (wd : Nat) : (s.skip bs wd).at_ ≤ bs.length := by
  unfold Rd.skip
  split <;> assumption
theorem Rd.num_lt (bs : List Bool) (s : Rd) (wd : Nat) (h : wd ≤ 64) : (s.num bs wd).toNat < 2 ^ wd := by
  unfold Rd.num
  split
  · refine numOf_lt wd _ ?_ h
    rw [List.length_take, List.length_drop]; omega
  · exact Nat.pow_pos (by decide)
/-- Is nothing left but noughts that fill a byte? -/
def endOk (bs : List Bool) (p : Nat) : Bool := decide (bs.length - p < 8) && (bs.drop p).all (! ·)
theorem bit_u8_64 (c : B8) (k : Nat) : (((c >>> k).setWidth 64) &&& 1#64) = if c.getLsbD k then 1#64 else 0#64 := by
  apply BitVec.eq_of_getLsbD_eq
  intro i hi
  rw [BitVec.getLsbD_and, BitVec.getLsbD_setWidth, BitVec.getLsbD_ushiftRight]
  cases i with
  | zero => rw [Nat.add_zero]; cases h : c.getLsbD k <;> simp
  | succ i =>
    have e1 : (1#64 : BitVec 64).getLsbD (i + 1) = false := by simp [BitVec.getLsbD_one]
    rw [e1, Bool.and_false]
    cases c.getLsbD k <;> simp [BitVec.getLsbD_one]
/-- A reader's block. -/
abbrev rE (rp : Nat) (A : Option Addr) (L C p : Nat) : Ent := ⟨rp, [.slice A L C, .int .i64 (8 * (L : Int)), .bool true, .int .i64 (p : Int)], 192, (0, 0)⟩
theorem At.here2 {P : Program} {w w' : World} {fp : List Nat} {hs : Hp} {A : Option Addr} {l : List B8} (h : At w A (l.map b8)) (hw : St ⟨P, w, fp⟩ hs w') (hd : l ≠ [] → ∀ a, A = some a → a.block ∉ fp) : At w' A (l.map b8) := by
  by_cases hx : l = []
  · subst hx; exact At.nil
  · exact h.here hw (hd hx)
theorem bit_v (rp : Nat) (A : Option Addr) (l : List B8) (C : Nat) (n : Int) (v3 : Value) (k : Nat) (hk : k < 8 * l.length) (hl : l.length ≤ 140737488355328) (w : World) (hR : At w (some ⟨rp, 0, none⟩) [.slice A l.length C, .int .i64 n, .bool true, v3]) (hA : At w A (l.map b8)) :
    Val Tryz.prog 137 [.pointer (some ⟨rp, 0, none⟩), .int .i64 (k : Int)] w (w64 (if (bytesBits l).getD k false then 1#64 else 0#64)) := by
  obtain ⟨a, rfl⟩ := hA.is (by rw [List.length_map]; omega)
  have hq : ((k : Int) / 8).toNat = k / 8 := by omega
  have hr : (7 - (k : Int) % 8).toNat = 7 - k % 8 := by omega
  have hg := bytesBits_get l (k / 8) (k % 8) (by omega) (by omega)
  rw [show 8 * (k / 8) + k % 8 = k by omega] at hg
  refine val_vc tab_ok Tryz.func137 rfl rfl ?_
  repeat' ((try (conv => whnf)); (first | refine Pick.mk _ (cell_known hR (by simp) rfl) ?_ | (rw [hq]; refine Pick.mk _ (cell_arg hA (by simp) (by omega)) ?_) | refine Pick.mk _ (shr_u8 (l.getD (k / 8) 0) _ (by omega) (by omega)) ?_ | refine Pick.mk _ (conv_u8_64 _) ?_ | refine Pick.mk _ (and_u64 _ 1#64) ?_ | refine Need.au ?_ | (refine Split.mk (fun hsplit => ?_) (fun hsplit => ?_) <;> (try simp only [List.cons.injEq, and_true, true_and, not_true_eq_false, not_false_eq_true] at hsplit) <;> try (exfalso; omega)) | refine Pick.au ?_ | refine store_au ?_ | refine Any.mk (fun _ => ?_) | refine Both.mk ?_ ?_)); all_goals (try (conv => whnf))
  rw [hr, bit_u8_64, hg]
  exact Done.mk rfl
theorem left_v (rp : Nat) (A : Option Addr) (L C p : Nat) (hL : L ≤ 140737488355328) (hp : p ≤ 8 * L) (w : World) (hR : At w (some ⟨rp, 0, none⟩) (rE rp A L C p).cs) : Val Tryz.prog 136 [.pointer (some ⟨rp, 0, none⟩)] w (.int .i64 (8 * (L : Int) - p)) := by
  refine val_vc tab_ok Tryz.func136 rfl rfl ?_
  repeat' ((try (conv => whnf)); (first | refine Pick.mk _ (cell_known hR (by simp) rfl) ?_ | refine Pick.mk pl136_1 (by decide +kernel) ?_ | refine Need.au ?_ | (refine Split.mk (fun hsplit => ?_) (fun hsplit => ?_) <;> (try simp only [List.cons.injEq, and_true, true_and, not_true_eq_false, not_false_eq_true] at hsplit) <;> try (exfalso; omega)) | refine Pick.au ?_ | refine store_au ?_ | refine Any.mk (fun _ => ?_) | refine Both.mk ?_ ?_)); all_goals (try (conv => whnf))
  all_goals exact Done.mk rfl
theorem rdnone_v (rp : Nat) (A : Option Addr) (L C p : Nat) (w : World) (hR : At w (some ⟨rp, 0, none⟩) (rE rp A L C p).cs) : Val Tryz.prog 91 [.pointer (some ⟨rp, 0, none⟩)] w (.bool false) :=
  rnone_v rp A L C (8 * (L : Int)) w (hR.take 3)
theorem take_m (rp : Nat) (A : Option Addr) (l : List B8) (C p wd : Nat) (hl : l.length ≤ 140737488351232) (hwd : wd ≤ 64) (hfit : p + wd ≤ 8 * l.length) (w : World) (hA : At w A (l.map b8)) (hd : l ≠ [] → ∀ a, A = some a → a.block ∉ [rp]) (hw : St ⟨Tryz.prog, w, [rp]⟩ [rE rp A l.length C p] w) :
    Mut Tryz.prog 171 [.pointer (some ⟨rp, 0, none⟩), .int .i64 (wd : Int)] w [rE rp A l.length C p] fun v hs2 => ∃ H, List.Sublist H hs2 ∧ v = w64 (numOf (((bytesBits l).drop p).take wd)) ∧ H = [rE rp A l.length C (p + wd)] := by
  have hbl := bytesBits_len l
  refine mut_vc tab_ok Tryz.func171 rfl rfl hw ?_
  repeat' ((try (conv => whnf)); (first | refine Pick.mk pl171_4 (by decide +kernel) ?_ | refine Need.au ?_ | (refine Split.mk (fun hsplit => ?_) (fun hsplit => ?_) <;> (try simp only [List.cons.injEq, and_true, true_and, not_true_eq_false, not_false_eq_true] at hsplit) <;> try (exfalso; omega)) | refine Pick.au ?_ | refine store_au ?_ | refine Any.mk (fun _ => ?_) | refine Both.mk ?_ ?_)); all_goals (try (conv => whnf))
  refine LoopVC.mk (fun m env hs => ∃ (j : Nat) (xj : Int), xj = j ∧ j + m = wd ∧ env = [(0, .pointer (some ⟨rp, 0, none⟩)), (5, w64 (numOf (((bytesBits l).drop p).take j))), (6, .int .i64 (wd : Int)), (7, .int .i64 xj)] ∧ hs = [rE rp A l.length C (p + j)]) wd
    (Weak.mk (Sub.cons rfl (Sub.cons rfl (Sub.cons rfl (Sub.cons rfl Sub.nil)))) (List.Sublist.refl _) ⟨0, 0, rfl, by omega, rfl, rfl⟩) ?_
  rintro m env hs ⟨j, xj, hxj, hj, rfl, rfl⟩
  by_cases hjw : j < wd
  · have hn := rd_next (bs := bytesBits l) (p := p) (j := j) (by omega)
    repeat' ((try (conv => whnf)); (first | refine QuietVC.val (fun w2 h2 => bit_v rp A l C _ _ (p + j) (by omega) (by omega) w2 (at_in (List.Mem.head _) h2) (hA.here2 h2 hd)) ?_ | refine Pick.mk _ (shl_u64 (numOf (((bytesBits l).drop p).take j)) 1 (by omega) (by omega)) ?_ | refine Pick.mk _ (or_u64 _ _) ?_ | refine Pick.mk pl171_4 (by decide +kernel) ?_ | refine Need.au ?_ | (refine Split.mk (fun hsplit => ?_) (fun hsplit => ?_) <;> (try simp only [List.cons.injEq, and_true, true_and, not_true_eq_false, not_false_eq_true] at hsplit) <;> try (exfalso; omega)) | refine Pick.au ?_ | refine store_au ?_ | refine Any.mk (fun _ => ?_) | refine Both.mk ?_ ?_)); all_goals (try (conv => whnf))
    exact again (m - 1) (by omega) (Sub.cons rfl (Sub.cons rfl (Sub.cons rfl (Sub.cons rfl Sub.nil)))) (List.Sublist.refl _) ⟨j + 1, xj + 1, by omega, by omega, by rw [hn, numOf_end], by rw [← Nat.add_assoc]; rfl⟩
  · obtain rfl : j = wd := by omega
    repeat' ((try (conv => whnf)); (first | refine Pick.mk pl171_4 (by decide +kernel) ?_ | refine Need.au ?_ | (refine Split.mk (fun hsplit => ?_) (fun hsplit => ?_) <;> (try simp only [List.cons.injEq, and_true, true_and, not_true_eq_false, not_false_eq_true] at hsplit) <;> try (exfalso; omega)) | refine Pick.au ?_ | refine store_au ?_ | refine Any.mk (fun _ => ?_) | refine Both.mk ?_ ?_)); all_goals (try (conv => whnf))
    exact Done.mk ⟨_, List.Sublist.refl _, rfl, rfl⟩
end Go.Proofs.YtnlheljpagpiiaaGreat
