/-
  Bits in the document: a number's bits; every input. Bits in the document: bytes' bits, and bytes of all bits; every input.
-/
import Derived.Test.YtnlheljpagpiiaaGreatMf
namespace Go.Proofs.YtnlheljpagpiiaaGreat
section
set_option linter.unusedVariables false
set_option linter.unusedSimpArgs false
set_option maxRecDepth 100000
set_option maxHeartbeats 8000000
open Go
attribute [local irreducible] bitsOf shlOf shrOf
/-- A row of values of the call's own, or none. -/
inductive OwnV (t : TypeId) : Option Addr → List Value → Nat → Hp → Prop
  | none : OwnV t none [] 0 []
  | row (b : Nat) (l : List Value) (r : List Value) (fr : Nat × Nat) (hf : Soft fr (l ++ r).length) : OwnV t (some ⟨b, 0, Option.none⟩) l (l ++ r).length [⟨b, l ++ r, t, fr⟩]
abbrev dE (dp : Nat) (A : Option Addr) (L C : Nat) : Ent := ⟨dp, [.slice A L C], 172, (0, 0)⟩
abbrev boolsV (bs : List Bool) : List Value := bs.map Value.bool
abbrev dobj (dp : Nat) (A : Option Addr) (C : Nat) (E : Hp) (vs : List Value) : Hp := E ++ [dE dp A vs.length C]
theorem apbool : ApT tab 170 170 4 ty4 := ⟨⟨_, rfl, rfl⟩, rfl, ⟨_, rfl, .inr ⟨_, rfl⟩⟩, by decide⟩
theorem and1_is (x : BitVec 64) (k : Nat) : ((x >>> k) &&& 1#64 = 1#64) ↔ x.getLsbD k = true := by
  rw [bit_is]
  cases x.getLsbD k <;> simp
theorem zbool_len (n : Nat) : (zerosL n ty4.zero).length = n := by
  show (List.replicate n _).length = n
  simp
theorem own1 {b2 c2 : Nat} (hc2 : 1 ≤ c2) (v : Value) : OwnV 4 (some ⟨b2, 0, none⟩) ([] ++ [v]) c2 [⟨b2, [v] ++ zerosL (c2 - 1) ty4.zero, 4, (0, 0)⟩] := by
  have h := OwnV.row (t := 4) b2 [v] (zerosL (c2 - 1) ty4.zero) (0, 0) soft0
  rw [show ([v] ++ zerosL (c2 - 1) ty4.zero).length = c2 by rw [List.length_append, zbool_len]; simp; omega] at h
  exact h
theorem dput_m (dp : Nat) (A : Option Addr) (C : Nat) (E : Hp) (bs : List Bool) (x : BitVec 64) (wd : Nat) (hwd : wd ≤ 64) (hx : wd < 64 → x >>> wd = 0#64) (hb : bs.length + wd ≤ 8192) (hO : OwnV 4 A (boolsV bs) C E) (w : World) (hw : St ⟨Tryz.prog, w, ids (dobj dp A C E (boolsV bs))⟩ (dobj dp A C E (boolsV bs)) w) :
    Mut Tryz.prog 112 [.pointer (some ⟨dp, 0, none⟩), w64 x, .int .i64 wd] w (dobj dp A C E (boolsV bs)) fun v hs2 => ∃ H, List.Sublist H hs2 ∧ ∃ A' C' E', v = .int .i64 0 ∧ OwnV 4 A' (boolsV (bs ++ numBits x wd)) C' E' ∧ H = dobj dp A' C' E' (boolsV (bs ++ numBits x wd)) := by
  have hlen : (boolsV bs).length = bs.length := List.length_map ..
  refine mut_vc tab_ok Tryz.func112 rfl rfl hw ?_
  repeat' ((try (conv => whnf)); (first | refine Pick.mk _ (shr_u64 x _ (by omega) (by omega)) ?_ | refine Pick.mk _ (cellIs_at mem_end rfl) ?_ | refine Pick.mk pl112_8 (by decide +kernel) ?_ | refine Need.au ?_ | (refine Split.mk (fun hsplit => ?_) (fun hsplit => ?_) <;> (try simp only [List.cons.injEq, and_true, true_and, not_true_eq_false, not_false_eq_true] at hsplit) <;> try (exfalso; omega)) | refine Pick.au ?_ | refine store_au ?_ | refine Any.mk (fun _ => ?_) | refine Both.mk ?_ ?_)); all_goals (try (conv => whnf))
  all_goals first | exact absurd (by rw [Int.toNat_natCast, hx (by omega)]; rfl) hsplit | skip
  all_goals
    refine LoopVC.mk (fun m env hs => ∃ (j : Nat) (xk : Int) (A : Option Addr) (C : Nat) (E : Hp), xk = (wd : Int) - 1 - j ∧ j + m = wd ∧ OwnV 4 A (boolsV (bs ++ topBits x wd j)) C E ∧ env = [(0, .pointer (some ⟨dp, 0, none⟩)), (1, w64 x), (7, .int .i64 xk)] ∧ hs = dobj dp A C E (boolsV (bs ++ topBits x wd j))) wd
      (Weak.mk (Sub.cons rfl (Sub.cons rfl (Sub.cons rfl Sub.nil))) (by rw [topBits, List.append_nil]; exact List.Sublist.refl _) ⟨0, wd - 1, A, C, E, by omega, by omega, by rw [topBits, List.append_nil]; exact hO, rfl, rfl⟩) ?_
    rintro m env hs ⟨j, xk, A, C, E, hxk, hj, hO, rfl, rfl⟩
    have htl := topBits_len x wd j
    have hlen2 : (boolsV (bs ++ topBits x wd j)).length = bs.length + j := by rw [List.length_map, List.length_append, htl]
    by_cases hjw : j < wd
    · have hk : xk.toNat = wd - 1 - j := by omega
      have e : boolsV (bs ++ topBits x wd (j + 1)) = boolsV (bs ++ topBits x wd j) ++ [.bool (x.getLsbD xk.toNat)] := by rw [topBits, ← List.append_assoc, boolsV, List.map_append, hk]; rfl
      generalize boolsV (bs ++ topBits x wd j) = vs at *
      have ht : ((((x >>> xk.toNat) &&& 1#64).toNat : Nat) : Int) = 1 → x.getLsbD xk.toNat = true := fun h => (and1_is x _).1 (BitVec.eq_of_toNat_eq (by have : ((1#64 : BitVec 64).toNat) = 1 := rfl; omega))
      have hf0 : ¬ ((((x >>> xk.toNat) &&& 1#64).toNat : Nat) : Int) = 1 → x.getLsbD xk.toNat = false := fun h => by
        cases hg : x.getLsbD xk.toNat with
        | false => rfl
        | true => exact absurd (by rw [(and1_is x _).2 hg]; rfl) h
      cases hO with
      | none =>
        repeat' ((try (conv => whnf)); (first | refine Pick.mk _ (shr_u64 x _ (by omega) (by omega)) ?_ | refine Pick.mk _ (and_u64 _ 1#64) ?_ | (refine AppendVC.nil (xs := [Value.bool _]) tab_ok apbool (Holds.row rfl (cellsAre_whole (by repeat (first | exact List.Mem.head _ | refine List.Mem.tail _ ?_)))) (by decide) (fun h0 => by cases h0) (fun _ b2 c2 hc2 => ?_)) | refine Pick.mk pl112_8 (by decide +kernel) ?_ | refine Need.au ?_ | (refine Split.mk (fun hsplit => ?_) (fun hsplit => ?_) <;> (try simp only [List.cons.injEq, and_true, true_and, not_true_eq_false, not_false_eq_true] at hsplit) <;> try (exfalso; omega)) | refine Pick.au ?_ | refine store_au ?_ | refine Any.mk (fun _ => ?_) | refine Both.mk ?_ ?_)); all_goals (try (conv => whnf))
        all_goals first | (rw [ht hsplit] at e; exact again (m - 1) (by omega) (Sub.cons rfl (Sub.cons rfl (Sub.cons rfl Sub.nil))) (by rw [e]; exact List.Sublist.cons_cons _ (List.Sublist.cons _ (List.Sublist.refl _))) ⟨j + 1, _, some ⟨b2, 0, none⟩, c2, [⟨b2, [.bool true] ++ zerosL (c2 - 1) ty4.zero, 4, (0, 0)⟩], by omega, by omega, by rw [e]; exact own1 hc2 _, rfl, rfl⟩) | (rw [hf0 hsplit] at e; exact again (m - 1) (by omega) (Sub.cons rfl (Sub.cons rfl (Sub.cons rfl Sub.nil))) (by rw [e]; exact List.Sublist.cons_cons _ (List.Sublist.cons _ (List.Sublist.refl _))) ⟨j + 1, _, some ⟨b2, 0, none⟩, c2, [⟨b2, [.bool false] ++ zerosL (c2 - 1) ty4.zero, 4, (0, 0)⟩], by omega, by omega, by rw [e]; exact own1 hc2 _, rfl, rfl⟩)
      | row p _ r fr hf =>
        repeat' ((try (conv => whnf)); (first | refine Pick.mk _ (shr_u64 x _ (by omega) (by omega)) ?_ | refine Pick.mk _ (and_u64 _ 1#64) ?_ | (refine AppendVC.on (xs := vs) (ys := [Value.bool _]) tab_ok apbool rfl (by repeat (first | exact Take.head _ | apply Take.tail)) hf rfl rfl (Holds.row rfl (cellsAre_whole (by repeat (first | exact List.Mem.head _ | refine List.Mem.tail _ ?_)))) rfl (by show (2 * (_ + _) + 192) * 1 ≤ _; omega) (fun b5 r5 fr5 hf5 => ?_)) | refine Pick.mk pl112_8 (by decide +kernel) ?_ | refine Need.au ?_ | (refine Split.mk (fun hsplit => ?_) (fun hsplit => ?_) <;> (try simp only [List.cons.injEq, and_true, true_and, not_true_eq_false, not_false_eq_true] at hsplit) <;> try (exfalso; omega)) | refine Pick.au ?_ | refine store_au ?_ | refine Any.mk (fun _ => ?_) | refine Both.mk ?_ ?_)); all_goals (try (conv => whnf))
        all_goals first | (rw [ht hsplit] at e; exact again (m - 1) (by omega) (Sub.cons rfl (Sub.cons rfl (Sub.cons rfl Sub.nil))) (by rw [e]; show List.Sublist [_, dE dp _ (vs ++ [Value.bool true]).length _] _; rw [show (vs ++ [Value.bool true]).length = vs.length + 1 from List.length_append ..]; exact List.Sublist.cons_cons _ (List.Sublist.cons _ (List.Sublist.refl _))) ⟨j + 1, _, some ⟨b5, 0, none⟩, _, [⟨b5, vs ++ [.bool true] ++ r5, 4, fr5⟩], by omega, by omega, by rw [e]; exact OwnV.row b5 (vs ++ [.bool true]) r5 fr5 hf5, rfl, rfl⟩) | (rw [hf0 hsplit] at e; exact again (m - 1) (by omega) (Sub.cons rfl (Sub.cons rfl (Sub.cons rfl Sub.nil))) (by rw [e]; show List.Sublist [_, dE dp _ (vs ++ [Value.bool false]).length _] _; rw [show (vs ++ [Value.bool false]).length = vs.length + 1 from List.length_append ..]; exact List.Sublist.cons_cons _ (List.Sublist.cons _ (List.Sublist.refl _))) ⟨j + 1, _, some ⟨b5, 0, none⟩, _, [⟨b5, vs ++ [.bool false] ++ r5, 4, fr5⟩], by omega, by omega, by rw [e]; exact OwnV.row b5 (vs ++ [.bool false]) r5 fr5 hf5, rfl, rfl⟩)
    · obtain rfl : j = wd := by omega
      repeat' ((try (conv => whnf)); (first | refine Pick.mk pl112_8 (by decide +kernel) ?_ | refine Need.au ?_ | (refine Split.mk (fun hsplit => ?_) (fun hsplit => ?_) <;> (try simp only [List.cons.injEq, and_true, true_and, not_true_eq_false, not_false_eq_true] at hsplit) <;> try (exfalso; omega)) | refine Pick.au ?_ | refine store_au ?_ | refine Any.mk (fun _ => ?_) | refine Both.mk ?_ ?_)); all_goals (try (conv => whnf))
      exact Done.mk ⟨_, List.Sublist.refl _, A, C, E, rfl, hO, rfl⟩
end
section
set_option linter.unusedVariables false
set_option linter.unusedSimpArgs false
set_option maxRecDepth 100000
set_option maxHeartbeats 8000000
open Go
attribute [local irreducible] bitsOf shlOf shrOf
theorem byte_small (c : B8) : (c.setWidth 64) >>> 8 = 0#64 := by
  apply BitVec.eq_of_toNat_eq
  rw [BitVec.toNat_ushiftRight, Nat.shiftRight_eq_div_pow, BitVec.toNat_setWidth]
  have := c.isLt
  simp
  omega
theorem dbytes_m (dp : Nat) (A : Option Addr) (C : Nat) (E : Hp) (bs : List Bool) (B : Option Addr) (l : List B8) (cb : Nat) (hl : l.length ≤ 1024) (hb : bs.length + 8 * l.length ≤ 8192) (hO : OwnV 4 A (boolsV bs) C E) (w : World) (hB : At w B (l.map b8)) (hd : l ≠ [] → ∀ a, B = some a → a.block ∉ ids (dobj dp A C E (boolsV bs)))
    (hw : St ⟨Tryz.prog, w, ids (dobj dp A C E (boolsV bs))⟩ (dobj dp A C E (boolsV bs)) w) :
    Mut Tryz.prog 80 [.pointer (some ⟨dp, 0, none⟩), .slice B l.length cb] w (dobj dp A C E (boolsV bs)) fun v hs2 => ∃ H, List.Sublist H hs2 ∧ ∃ A' C' E', v = .int .i64 0 ∧ OwnV 4 A' (boolsV (bs ++ bytesBits l)) C' E' ∧ H = dobj dp A' C' E' (boolsV (bs ++ bytesBits l)) := by
  have hlen : (boolsV bs).length = bs.length := List.length_map ..
  refine mut_vc tab_ok Tryz.func80 rfl rfl hw ?_
  repeat' ((try (conv => whnf)); (first | refine Pick.mk _ (cellIs_at mem_end rfl) ?_ | refine Need.au ?_ | (refine Split.mk (fun hsplit => ?_) (fun hsplit => ?_) <;> (try simp only [List.cons.injEq, and_true, true_and, not_true_eq_false, not_false_eq_true] at hsplit) <;> try (exfalso; omega)) | refine Pick.au ?_ | refine store_au ?_ | refine Any.mk (fun _ => ?_) | refine Both.mk ?_ ?_)); all_goals (try (conv => whnf))
  refine LoopVC.mk (fun m env hs => ∃ (i : Nat) (xi : Int) (A : Option Addr) (C : Nat) (E : Hp), xi = i ∧ i + m = l.length ∧ OwnV 4 A (boolsV (bs ++ bytesBits (l.take i))) C E ∧ env = [(0, .pointer (some ⟨dp, 0, none⟩)), (1, .slice B l.length cb), (5, .int .i64 xi)] ∧ hs = dobj dp A C E (boolsV (bs ++ bytesBits (l.take i)))) l.length
    (Weak.mk (Sub.cons rfl (Sub.cons rfl (Sub.cons rfl Sub.nil))) (by rw [List.take_zero, bytesBits, List.append_nil]; exact List.Sublist.refl _) ⟨0, 0, A, C, E, by omega, by omega, by rw [List.take_zero, bytesBits, List.append_nil]; exact hO, rfl, rfl⟩) ?_
  rintro m env hs ⟨i, xi, A', C', E', hxi, hj, hO', rfl, rfl⟩
  have htl := bytesBits_len (l.take i)
  rw [List.length_take] at htl
  by_cases hil : i < l.length
  · obtain ⟨b, rfl⟩ := hB.is (by rw [List.length_map]; omega)
    have hd2 := hd (by intro h; rw [h] at hil; cases hil) b rfl
    have hxn : xi.toNat = i := by omega
    have e : bs ++ bytesBits (l.take (i + 1)) = bs ++ bytesBits (l.take i) ++ numBits ((l.getD i 0).setWidth 64) 8 := by rw [bytes_step l i hil, List.append_assoc]
    repeat' ((try (conv => whnf)); (first | (rw [hxn]; refine Pick.mk _ (cell_arg hB hd2 hil) ?_) | refine Pick.mk _ (conv_u8_64 _) ?_ | (refine CallVC.mutT (dobj dp A' C' E' (boolsV (bs ++ bytesBits (l.take i)))) [] (List.Perm.of_eq (List.append_nil _).symm) (fun w2 h2 h3 => dput_m dp A' C' E' (bs ++ bytesBits (l.take i)) ((l.getD i 0).setWidth 64) 8 (by decide) (fun _ => byte_small _) (by rw [List.length_append]; omega) hO' w2 h3) ?_; rintro v H ⟨A3, C3, E3, rfl, hO3, rfl⟩) | refine Need.au ?_ | (refine Split.mk (fun hsplit => ?_) (fun hsplit => ?_) <;> (try simp only [List.cons.injEq, and_true, true_and, not_true_eq_false, not_false_eq_true] at hsplit) <;> try (exfalso; omega)) | refine Pick.au ?_ | refine store_au ?_ | refine Any.mk (fun _ => ?_) | refine Both.mk ?_ ?_)); all_goals (try (conv => whnf))
    exact again (m - 1) (by omega) (Sub.cons rfl (Sub.cons rfl (Sub.cons rfl Sub.nil))) (by rw [e]; simp) ⟨i + 1, _, A3, C3, E3, by omega, by omega, by rw [e]; exact hO3, rfl, rfl⟩
  · obtain rfl : i = l.length := by omega
    rw [List.take_length] at hO' ⊢
    repeat' ((try (conv => whnf)); (first | refine Need.au ?_ | (refine Split.mk (fun hsplit => ?_) (fun hsplit => ?_) <;> (try simp only [List.cons.injEq, and_true, true_and, not_true_eq_false, not_false_eq_true] at hsplit) <;> try (exfalso; omega)) | refine Pick.au ?_ | refine store_au ?_ | refine Any.mk (fun _ => ?_) | refine Both.mk ?_ ?_)); all_goals (try (conv => whnf))
    exact Done.mk ⟨_, List.Sublist.refl _, A', C', E', rfl, hO', rfl⟩
theorem cell_bool {G : Cx} {hs : Hp} {a : Addr} {bs : List Bool} {k : Nat} {b : Bool} (h : At G.w0 (some a) (boolsV bs)) (hd : a.block ∉ G.fp) (hk : k < bs.length) (hb : bs.getD k false = b) : G.cellIs hs (a.add (k * 1)) (.bool b) := by
  rw [Nat.mul_one]
  refine cell_of_at rfl h hd ?_
  rw [List.getElem?_map, List.getElem?_eq_getElem hk, ← hb, List.getD_eq_getElem?_getD, List.getElem?_eq_getElem hk]
  rfl
/-- The bytes so far, and noughts. -/
def padB (bs : List Bool) (n i : Nat) : List B8 := pack (bs.take i) ++ List.replicate (n - (i + 7) / 8) 0#8
theorem padB_len {bs : List Bool} {n i : Nat} (hi : i ≤ bs.length) (hn : (i + 7) / 8 ≤ n) : (padB bs n i).length = n := by
  unfold padB
  rw [List.length_append, pack_len, List.length_take, Nat.min_eq_left hi, List.length_replicate]; omega
theorem padB_step {bs : List Bool} {n i : Nat} (hi : i < bs.length) (hn : n = (bs.length + 7) / 8) : (padB bs n i).set (i / 8) ((padB bs n i).getD (i / 8) 0 ||| bitB (bs.getD i false) (i % 8)) = padB bs n (i + 1) := by
  have hp : pack (bs.take (i + 1)) = pushB (pack (bs.take i)) i (bs.getD i false) := by
    rw [List.take_succ_eq_append_getElem hi, pack_end, List.length_take, Nat.min_eq_left (by omega), List.getD_eq_getElem?_getD, List.getElem?_eq_getElem hi]
    rfl
  have hl : (pack (bs.take i)).length = (i + 7) / 8 := by rw [pack_len, List.length_take, Nat.min_eq_left (by omega)]
  unfold padB
  rw [hp]
  generalize pack (bs.take i) = p at *
  unfold pushB
  by_cases h0 : i % 8 = 0
  · rw [if_pos h0]
    obtain ⟨k, hk⟩ : ∃ k, n - (i + 7) / 8 = k + 1 := ⟨n - (i + 7) / 8 - 1, by omega⟩
    rw [hk, show n - (i + 1 + 7) / 8 = k by omega, List.replicate_succ, show i / 8 = p.length by omega, h0]
    rw [List.set_append_right _ _ (Nat.le_refl _), Nat.sub_self, List.getD_eq_getElem?_getD, List.getElem?_append_right (Nat.le_refl _), Nat.sub_self]
    simp
  · rw [if_neg h0, show n - (i + 1 + 7) / 8 = n - (i + 7) / 8 by omega]
    rw [List.set_append_left _ _ (by omega), List.getD_eq_getElem?_getD, List.getElem?_append_left (by omega), ← List.getD_eq_getElem?_getD]
theorem padB_same {bs : List Bool} {n i : Nat} (hi : i < bs.length) (hn : n = (bs.length + 7) / 8) (hb : bs.getD i false = false) : padB bs n (i + 1) = padB bs n i := by
  rw [← padB_step hi hn, hb]
  have e : bitB false (i % 8) = 0#8 := by unfold bitB; simp
  have hl := padB_len (n := n) (Nat.le_of_lt hi) (by omega)
  rw [e, BitVec.or_zero, List.getD_eq_getElem?_getD, List.getElem?_eq_getElem (by omega)]
  simp
theorem ddone_r (dp : Nat) (A : Option Addr) (bs : List Bool) (C : Nat) (hl : bs.length ≤ 8192) (w : World) (hP : At w (some ⟨dp, 0, none⟩) [.slice A (boolsV bs).length C]) (hA : At w A (boolsV bs)) :
    Ret Tryz.prog 78 [.pointer (some ⟨dp, 0, none⟩)] w (Gives 5 ((pack bs).map b8)) := by
  have hlen : (boolsV bs).length = bs.length := List.length_map ..
  rw [hlen] at hP
  refine ret_vc tab_ok Tryz.func78 rfl rfl ?_
  repeat' ((try (conv => whnf)); (first | refine Pick.mk _ (cell_known hP (by simp) rfl) ?_ | refine Pick.mk _ (quo_i64 (by omega) (by omega) (by omega)) ?_ | refine Need.mk ⟨by omega, by omega, by show (((bs.length : Nat) : Int) + 7) / 8 * 1 ≤ _; omega, by decide⟩ ?_ | refine Pick.mk pl78_6 (by decide +kernel) ?_ | refine Need.au ?_ | (refine Split.mk (fun hsplit => ?_) (fun hsplit => ?_) <;> (try simp only [List.cons.injEq, and_true, true_and, not_true_eq_false, not_false_eq_true] at hsplit) <;> try (exfalso; omega)) | refine Pick.au ?_ | refine store_au ?_ | refine Any.mk (fun _ => ?_) | refine Both.mk ?_ ?_)); all_goals (try (conv => whnf))
  rename_i bo
  have hn8 : (((bs.length : Nat) : Int) + 7) / 8 = ((bs.length + 7) / 8 : Nat) := by omega
  rw [hn8, Int.toNat_natCast]
  generalize hN : (bs.length + 7) / 8 = N
  have hz : zerosL N ty5.zero = (padB bs N 0).map b8 := by
    show List.replicate N (b8 0#8) = _
    rw [padB, List.take_zero, show pack [] = [] from rfl, List.nil_append, List.map_replicate]; rfl
  rw [hz]
  refine LoopVC.mk (fun m env hs => ∃ (i : Nat) (xi : Int), xi = i ∧ i + m = bs.length ∧ env = [(0, .pointer (some ⟨dp, 0, none⟩)), (3, .slice (some ⟨bo, 0, none⟩) N N), (4, .int .i64 xi)] ∧ hs = [⟨bo, (padB bs N i).map b8, 5, (0, 0)⟩]) bs.length
    (Weak.mk (Sub.cons rfl (Sub.cons rfl (Sub.cons rfl Sub.nil))) (List.Sublist.refl _) ⟨0, 0, by omega, by omega, rfl, rfl⟩) ?_
  rintro m env hs ⟨i, xi, hxi, hj, rfl, rfl⟩
  have hpl := padB_len (bs := bs) (n := N) (i := i) (by omega) (by omega)
  by_cases hib : i < bs.length
  · obtain ⟨a, rfl⟩ := hA.is (by rw [hlen]; omega)
    have hxn : xi.toNat = i := by omega
    have hx8 : (xi / 8).toNat = i / 8 := by omega
    have hx7 : (7 - xi % 8).toNat = 7 - i % 8 := by omega
    cases hb : bs.getD i false
    · have hs0 := padB_same hib hN.symm hb
      repeat' ((try (conv => whnf)); (first | refine Pick.mk _ (cell_known hP (by simp) rfl) ?_ | (rw [hxn]; refine Pick.mk _ (cell_bool hA (by simp) hib hb) ?_) | refine Pick.mk pl78_6 (by decide +kernel) ?_ | refine Need.au ?_ | (refine Split.mk (fun hsplit => ?_) (fun hsplit => ?_) <;> (try simp only [List.cons.injEq, and_true, true_and, not_true_eq_false, not_false_eq_true] at hsplit) <;> try (exfalso; omega)) | refine Pick.au ?_ | refine store_au ?_ | refine Any.mk (fun _ => ?_) | refine Both.mk ?_ ?_)); all_goals (try (conv => whnf))
      exact again (m - 1) (by omega) (Sub.cons rfl (Sub.cons rfl (Sub.cons rfl Sub.nil))) (List.Sublist.refl _) ⟨i + 1, _, by omega, by omega, rfl, by rw [hs0]⟩
    · have hs1 := padB_step hib hN.symm
      have e1 : (1#8 <<< (7 - i % 8)) = bitB true (i % 8) := rfl
      repeat' ((try (conv => whnf)); (first | refine Pick.mk _ (cell_known hP (by simp) rfl) ?_ | (rw [hxn]; refine Pick.mk _ (cell_bool hA (by simp) hib hb) ?_) | (rw [hx8]; refine Pick.mk _ (cell_br (r := []) (by rw [List.append_nil]; repeat (first | exact List.Mem.head _ | refine List.Mem.tail _ ?_)) (by omega)) ?_) | refine Pick.mk _ (shl_u8 1#8 _ (by omega) (by omega)) ?_ | refine Pick.mk _ (or_u8 _ _) ?_ | (rw [hx8]; refine store_w (r := []) (by rw [List.append_nil, List.append_nil]; repeat (first | exact Upd.head _ | apply Upd.tail)) (by omega) soft0 ?_) | refine Pick.mk pl78_6 (by decide +kernel) ?_ | refine Need.au ?_ | (refine Split.mk (fun hsplit => ?_) (fun hsplit => ?_) <;> (try simp only [List.cons.injEq, and_true, true_and, not_true_eq_false, not_false_eq_true] at hsplit) <;> try (exfalso; omega)) | refine Pick.au ?_ | refine store_au ?_ | refine Any.mk (fun _ => ?_) | refine Both.mk ?_ ?_)); all_goals (try (conv => whnf))
      exact again (m - 1) (by omega) (Sub.cons rfl (Sub.cons rfl (Sub.cons rfl Sub.nil))) (List.Sublist.refl _) ⟨i + 1, _, by omega, by omega, rfl, by rw [hb] at hs1; rw [hx7, e1, hs1]⟩
  · obtain rfl : i = bs.length := by omega
    have he : padB bs N bs.length = pack bs := by rw [padB, List.take_length, hN, Nat.sub_self]; simp
    rw [he] at hpl ⊢
    repeat' ((try (conv => whnf)); (first | refine Pick.mk _ (cell_known hP (by simp) rfl) ?_ | refine Pick.mk pl78_6 (by decide +kernel) ?_ | refine Need.au ?_ | (refine Split.mk (fun hsplit => ?_) (fun hsplit => ?_) <;> (try simp only [List.cons.injEq, and_true, true_and, not_true_eq_false, not_false_eq_true] at hsplit) <;> try (exfalso; omega)) | refine Pick.au ?_ | refine store_au ?_ | refine Any.mk (fun _ => ?_) | refine Both.mk ?_ ?_)); all_goals (try (conv => whnf))
    exact Done.mk (Gives.all (List.Mem.head _) rfl (by rw [List.length_map]; omega) (by rw [List.length_map]; omega))
end
end Go.Proofs.YtnlheljpagpiiaaGreat
