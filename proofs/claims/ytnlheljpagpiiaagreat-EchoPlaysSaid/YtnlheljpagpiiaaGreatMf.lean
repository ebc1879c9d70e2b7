/-
  Bits in bytes: one bit more; every input. Bits in bytes: a number's bits, bytes' bits, all of them; every input. Bits in bytes: bytes' bits, all of them; every input. Bits in bytes: a writer that is new, and what it has in the end; every input.
-/
import Derived.Test.YtnlheljpagpiiaaGreatMk
namespace Go.Proofs.YtnlheljpagpiiaaGreat
section
set_option linter.unusedVariables false
set_option linter.unusedSimpArgs false
set_option maxRecDepth 100000
set_option maxHeartbeats 8000000
open Go
attribute [local irreducible] bitsOf shlOf shrOf
theorem ap8 : ApT tab 23 23 5 ty5 := ⟨⟨_, rfl, rfl⟩, rfl, ⟨_, rfl, .inr ⟨_, rfl⟩⟩, by decide⟩
/-- A bit in its place in a byte. -/
def bitB (b : Bool) (k : Nat) : B8 := (if b then (1#8) else 0#8) <<< (7 - k)
/-- One bit more, behind n bits. -/
def pushB (l : List B8) (n : Nat) (b : Bool) : List B8 := if n % 8 = 0 then l ++ [0#8 ||| bitB b 0] else l.set (n / 8) (l.getD (n / 8) 0 ||| bitB b (n % 8))
/-- Bits in bytes, the rest of the last one is nought; the bits come last first. -/
def packR : List Bool → List B8
  | [] => []
  | b :: r => pushB (packR r) r.length b
def pack (bs : List Bool) : List B8 := packR bs.reverse
theorem pack_end (bs : List Bool) (b : Bool) : pack (bs ++ [b]) = pushB (pack bs) bs.length b := by
  unfold pack
  rw [List.reverse_append, List.reverse_cons, List.reverse_nil, List.nil_append, List.singleton_append, packR, List.length_reverse]
theorem packR_len : ∀ bs : List Bool, (packR bs).length = (bs.length + 7) / 8
  | [] => rfl
  | b :: r => by
    have ih := packR_len r
    rw [packR, pushB, List.length_cons]
    split
    · rw [List.length_append, ih]; simp; omega
    · rw [List.length_set, ih]; omega
theorem pack_len (bs : List Bool) : (pack bs).length = (bs.length + 7) / 8 := by rw [pack, packR_len, List.length_reverse]
/-- A writer's block. -/
abbrev wE (wp : Nat) (A : Option Addr) (L C : Nat) (n : Int) : Ent := ⟨wp, [.slice A L C, .int .i64 n, .bool true], 149, (0, 0)⟩
theorem store_w {G : Cx} {hs : Hp} {b k : Nat} {l : List B8} {v : B8} {r : List Value} {t : TypeId} {fr : Nat × Nat} {hs' : Hp} {K : Hp → Prop} (hu : Upd ⟨b, l.map b8 ++ r, t, fr⟩ ⟨b, (l.set k v).map b8 ++ r, t, fr⟩ hs hs') (hk : k < l.length) (hfr : Soft fr (l.map b8 ++ r).length) (h : K hs') :
    StoreVC G hs (Addr.add ⟨b, 0, none⟩ (k * 1)) [b8 v] K := by
  refine store_el (t := t) (fr := fr) (hs' := hs') ?_ hfr rfl (by rw [List.length_append, List.length_map]; omega) h
  rw [List.set_append_left _ _ (by simpa using hk), ← List.map_set]
  exact hu
theorem conv_u64_8 (x : BitVec 64) : ((x.setWidth 8).toNat : Int) = IntKind.u8.wrap (x.toNat : Int) := by
  simp [IntKind.wrap, IntKind.signed, IntKind.bits, BitVec.toNat_setWidth]
theorem zw_len (n : Nat) : (zerosL n ty5.zero).length = n := by
  show (List.replicate n _).length = n
  simp
theorem set_end (l : List B8) (x : B8) : (l ++ [0#8]).set l.length ((l ++ [0#8]).getD l.length 0 ||| x) = l ++ [0#8 ||| x] := by
  rw [List.set_append_right _ _ (Nat.le_refl _), Nat.sub_self, List.getD_eq_getElem?_getD, List.getElem?_append_right (Nat.le_refl _), Nat.sub_self]
  rfl
theorem push_m (wp : Nat) (A : Option Addr) (C : Nat) (E : Hp) (bs : List Bool) (b : Bool) (n : Int) (bv : BitVec 64) (hn : n = bs.length) (hb : bs.length ≤ 10000) (hO : Own A (pack bs) C E) (hbv : bv = if b then 1#64 else 0#64) (w : World) (hw : St ⟨Tryz.prog, w, ids (E ++ [wE wp A (pack bs).length C n])⟩ (E ++ [wE wp A (pack bs).length C n]) w) :
    Mut Tryz.prog 93 [.pointer (some ⟨wp, 0, none⟩), w64 bv] w (E ++ [wE wp A (pack bs).length C n]) fun v hs2 => ∃ H, List.Sublist H hs2 ∧ ∃ A' C' E', Own A' (pack (bs ++ [b])) C' E' ∧ H = E' ++ [wE wp A' (pack (bs ++ [b])).length C' (n + 1)] := by
  have hpl := pack_len bs
  have hpe := pack_end bs b
  rw [hpe]
  clear hpe
  generalize pack bs = l at *
  have h8 : bv.setWidth 8 = if b then 1#8 else 0#8 := by rw [hbv]; cases b <;> rfl
  have hbit : ∀ k : Nat, k < 8 → ∀ c : Int, c = 7 - (k : Int) → bv.setWidth 8 <<< c.toNat = bitB b k := by
    intro k hk c hc
    unfold bitB
    rw [h8]
    congr 1
    omega
  have e1 : (n / 8).toNat = bs.length / 8 := by omega
  cases hO with
  | none =>
    rw [List.length_nil] at hpl
    have h0 : bs.length % 8 = 0 := by omega
    refine mut_vc tab_ok Tryz.func93 rfl rfl hw ?_
    repeat' ((try (conv => whnf)); (first | (refine AppendVC.nil (xs := ([0#8] : List B8).map b8) tab_ok ap8 (Holds.row rfl (cellsAre_whole (by repeat (first | exact List.Mem.head _ | refine List.Mem.tail _ ?_)))) (by decide) (fun h0 => by cases h0) (fun _ b2 c2 hc2 => ?_)) | refine Pick.mk _ (cell_br (by repeat (first | exact List.Mem.head _ | refine List.Mem.tail _ ?_)) (by first | omega | (simp only [List.length_append, List.length_cons, List.length_nil]; omega))) ?_ | refine Pick.mk _ (conv_u64_8 bv) ?_ | refine Pick.mk _ (shl_u8 _ _ (by omega) (by omega)) ?_ | refine Pick.mk _ (or_u8 _ _) ?_ | (refine store_w (by repeat (first | exact Upd.head _ | apply Upd.tail)) (by first | omega | (simp only [List.length_append, List.length_cons, List.length_nil]; omega)) (by first | assumption | exact soft0) ?_) | refine Pick.mk pl93_2 (by decide +kernel) ?_ | refine Need.au ?_ | (refine Split.mk (fun hsplit => ?_) (fun hsplit => ?_) <;> (try simp only [List.cons.injEq, and_true, true_and, not_true_eq_false, not_false_eq_true] at hsplit) <;> try (exfalso; omega)) | refine Pick.au ?_ | refine store_au ?_ | refine Any.mk (fun _ => ?_) | refine Both.mk ?_ ?_)); all_goals (try (conv => whnf))
    have hz : bs.length = 0 := by omega
    have e2 := set_end [] (bitB b 0)
    rw [hbit 0 (by omega) _ (by omega), e1, hz]
    rw [hz] at *
    have e3 : pushB [] 0 b = [0#8 ||| bitB b 0] := rfl
    have e4 : ([0#8] : List B8).set (0 / 8) (([0#8] : List B8).getD (0 / 8) 0 ||| bitB b 0) = pushB [] 0 b := by rw [e3]; exact e2
    rw [e4]
    exact Done.mk ⟨_, List.Sublist.cons_cons _ (List.Sublist.cons _ (List.Sublist.refl _)), _, _, _, Own.row b2 (pushB [] 0 b) (zerosL (c2 - 1) ty5.zero) (0, 0) soft0, by rw [show ((pushB [] 0 b).map b8 ++ zerosL (c2 - 1) ty5.zero).length = c2 by rw [List.length_append, List.length_map, zw_len, e3]; simp; omega]; rfl⟩
  | row p l r fr hf =>
    refine mut_vc tab_ok Tryz.func93 rfl rfl hw ?_
    repeat' ((try (conv => whnf)); (first | (refine AppendVC.bytes (xs := l) (ys := [0#8]) tab_ok ap8 rfl (by repeat (first | exact Take.head _ | apply Take.tail)) hf rfl rfl (Holds.row rfl (cellsAre_whole (by repeat (first | exact List.Mem.head _ | refine List.Mem.tail _ ?_)))) (by show (2 * (_ + _) + 192) * 1 ≤ _; omega) (fun b5 r5 fr5 hf5 => ?_)) | refine Pick.mk _ (cell_br (by repeat (first | exact List.Mem.head _ | refine List.Mem.tail _ ?_)) (by first | omega | (simp only [List.length_append, List.length_cons, List.length_nil]; omega))) ?_ | refine Pick.mk _ (conv_u64_8 bv) ?_ | refine Pick.mk _ (shl_u8 _ _ (by omega) (by omega)) ?_ | refine Pick.mk _ (or_u8 _ _) ?_ | (refine store_w (by repeat (first | exact Upd.head _ | apply Upd.tail)) (by first | omega | (simp only [List.length_append, List.length_cons, List.length_nil]; omega)) (by first | assumption | exact soft0) ?_) | refine Pick.mk pl93_2 (by decide +kernel) ?_ | refine Need.au ?_ | (refine Split.mk (fun hsplit => ?_) (fun hsplit => ?_) <;> (try simp only [List.cons.injEq, and_true, true_and, not_true_eq_false, not_false_eq_true] at hsplit) <;> try (exfalso; omega)) | refine Pick.au ?_ | refine store_au ?_ | refine Any.mk (fun _ => ?_) | refine Both.mk ?_ ?_)); all_goals (try (conv => whnf))
    · have h0 : bs.length % 8 = 0 := by omega
      have hl8 : bs.length / 8 = l.length := by omega
      have e3 : pushB l bs.length b = l ++ [0#8 ||| bitB b 0] := by unfold pushB; rw [if_pos h0]
      rw [hbit 0 (by omega) _ (by omega), e1, hl8, set_end, ← e3]
      exact Done.mk ⟨_, List.Sublist.cons_cons _ (List.Sublist.cons _ (List.Sublist.refl _)), _, _, _, Own.row b5 (pushB l bs.length b) r5 fr5 (by rw [e3]; simpa using hf5), by rw [e3, show ((l ++ [0#8 ||| bitB b 0]).map b8 ++ r5).length = ((l ++ [0#8]).map b8 ++ r5).length by simp, show (l ++ [0#8 ||| bitB b 0]).length = l.length + 1 by simp]; rfl⟩
    · have h0 : bs.length % 8 ≠ 0 := by omega
      have e3 : pushB l bs.length b = l.set (bs.length / 8) (l.getD (bs.length / 8) 0 ||| bitB b (bs.length % 8)) := by unfold pushB; rw [if_neg h0]
      rw [hbit (bs.length % 8) (by omega) _ (by omega), e1, ← e3]
      exact Done.mk ⟨_, List.Sublist.refl _, _, _, _, Own.row p (pushB l bs.length b) r fr (by rw [e3]; simpa using hf), by rw [e3, show ((l.set (bs.length / 8) (l.getD (bs.length / 8) 0 ||| bitB b (bs.length % 8))).map b8 ++ r).length = (l.map b8 ++ r).length by simp, List.length_set]; rfl⟩
end
section
set_option linter.unusedVariables false
set_option linter.unusedSimpArgs false
set_option maxRecDepth 100000
set_option maxHeartbeats 8000000
open Go
attribute [local irreducible] bitsOf shlOf shrOf
/-- The first so many of a number's w bits. -/
def topBits (x : BitVec 64) (w : Nat) : Nat → List Bool
  | 0 => []
  | j + 1 => topBits x w j ++ [x.getLsbD (w - 1 - j)]
def numBits (x : BitVec 64) (w : Nat) : List Bool := topBits x w w
theorem topBits_len (x : BitVec 64) (w j : Nat) : (topBits x w j).length = j := by
  induction j with
  | zero => rfl
  | succ j ih => rw [topBits, List.length_append, ih]; rfl
theorem bit_is (x : BitVec 64) (k : Nat) : (x >>> k) &&& 1#64 = if x.getLsbD k then 1#64 else 0#64 := by
  apply BitVec.eq_of_getLsbD_eq
  intro i hi
  rw [BitVec.getLsbD_and, BitVec.getLsbD_ushiftRight]
  cases i with
  | zero => cases h : x.getLsbD k <;> simp [h]
  | succ i => cases h : x.getLsbD k <;> simp [BitVec.getLsbD_one]
theorem rnone_v (wp : Nat) (A : Option Addr) (L C : Nat) (n : Int) (w : World) (h : At w (some ⟨wp, 0, none⟩) [.slice A L C, .int .i64 n, .bool true]) : Val Tryz.prog 91 [.pointer (some ⟨wp, 0, none⟩)] w (.bool false) := by
  refine val_vc tab_ok Tryz.func91 rfl rfl ?_
  repeat' ((try (conv => whnf)); (first | refine Pick.mk _ (cell_known h (by simp) rfl) ?_ | refine Need.au ?_ | (refine Split.mk (fun hsplit => ?_) (fun hsplit => ?_) <;> (try simp only [List.cons.injEq, and_true, true_and, not_true_eq_false, not_false_eq_true] at hsplit) <;> try (exfalso; omega)) | refine Pick.au ?_ | refine store_au ?_ | refine Any.mk (fun _ => ?_) | refine Both.mk ?_ ?_)); all_goals (try (conv => whnf))
  all_goals exact Done.mk rfl
theorem rroom_v (wp : Nat) (A : Option Addr) (L C : Nat) (n m : Int) (hn : 0 ≤ n ∧ n ≤ 8192) (hm : m ≤ 8192 - n) (w : World) (h : At w (some ⟨wp, 0, none⟩) [.slice A L C, .int .i64 n, .bool true]) : Val Tryz.prog 92 [.pointer (some ⟨wp, 0, none⟩), .int .i64 m] w (.bool true) := by
  refine val_vc tab_ok Tryz.func92 rfl rfl ?_
  repeat' ((try (conv => whnf)); (first | refine Pick.mk _ (cell_known h (by simp) rfl) ?_ | refine Need.au ?_ | (refine Split.mk (fun hsplit => ?_) (fun hsplit => ?_) <;> (try simp only [List.cons.injEq, and_true, true_and, not_true_eq_false, not_false_eq_true] at hsplit) <;> try (exfalso; omega)) | refine Pick.au ?_ | refine store_au ?_ | refine Any.mk (fun _ => ?_) | refine Both.mk ?_ ?_)); all_goals (try (conv => whnf))
  all_goals exact Done.mk rfl
theorem mem_end {E : Hp} {e : Ent} : e ∈ E ++ [e] := List.mem_append_right _ (List.Mem.head _)
/-- What a writer holds. -/
abbrev wobj (wp : Nat) (A : Option Addr) (C : Nat) (E : Hp) (bs : List Bool) (n : Int) : Hp := E ++ [wE wp A (pack bs).length C n]
theorem put_m (wp : Nat) (A : Option Addr) (C : Nat) (E : Hp) (bs : List Bool) (n : Int) (x : BitVec 64) (wd : Nat) (hn : n = bs.length) (hwd : wd ≤ 64) (hx : wd < 64 → x >>> wd = 0#64) (hb : bs.length + wd ≤ 8192) (hO : Own A (pack bs) C E) (w : World) (hw : St ⟨Tryz.prog, w, ids (wobj wp A C E bs n)⟩ (wobj wp A C E bs n) w) :
    Mut Tryz.prog 129 [.pointer (some ⟨wp, 0, none⟩), w64 x, .int .i64 wd] w (wobj wp A C E bs n) fun v hs2 => ∃ H, List.Sublist H hs2 ∧ ∃ A' C' E', v = .int .i64 0 ∧ Own A' (pack (bs ++ numBits x wd)) C' E' ∧ H = wobj wp A' C' E' (bs ++ numBits x wd) (n + wd) := by
  refine mut_vc tab_ok Tryz.func129 rfl rfl hw ?_
  repeat' ((try (conv => whnf)); (first | refine Pick.mk pm129_12 (by decide +kernel) ?_ | refine CallVC.val (fun w2 h2 => rnone_v wp _ _ _ _ w2 (at_in mem_end h2)) ?_ | refine CallVC.val (fun w2 h2 => rroom_v wp _ _ _ n wd (by omega) (by omega) w2 (at_in mem_end h2)) ?_ | refine Pick.mk _ (shr_u64 x _ (by omega) (by omega)) ?_ | refine Pick.mk pl129_12 (by decide +kernel) ?_ | refine Need.au ?_ | (refine Split.mk (fun hsplit => ?_) (fun hsplit => ?_) <;> (try simp only [List.cons.injEq, and_true, true_and, not_true_eq_false, not_false_eq_true] at hsplit) <;> try (exfalso; omega)) | refine Pick.au ?_ | refine store_au ?_ | refine Any.mk (fun _ => ?_) | refine Both.mk ?_ ?_)); all_goals (try (conv => whnf))
  all_goals first | exact absurd (by rw [Int.toNat_natCast, hx (by omega)]; rfl) hsplit | skip
  all_goals
    refine LoopVC.mk (fun m env hs => ∃ (j : Nat) (xk nn : Int) (A : Option Addr) (C : Nat) (E : Hp), xk = (wd : Int) - 1 - j ∧ nn = n + j ∧ j + m = wd ∧ Own A (pack (bs ++ topBits x wd j)) C E ∧ env = [(0, .pointer (some ⟨wp, 0, none⟩)), (1, w64 x), (7, .int .i64 xk)] ∧ hs = wobj wp A C E (bs ++ topBits x wd j) nn) wd
      (Weak.mk (Sub.cons rfl (Sub.cons rfl (Sub.cons rfl Sub.nil))) (by rw [topBits, List.append_nil]; exact List.Sublist.refl _) ⟨0, wd - 1, n, A, C, E, by omega, by omega, by omega, by rw [topBits, List.append_nil]; exact hO, rfl, rfl⟩) ?_
    rintro m env hs ⟨j, xk, nn, A, C, E, hxk, hnn, hj, hO, rfl, rfl⟩
    have htl := topBits_len x wd j
    by_cases hjw : j < wd
    · have hk : xk.toNat = wd - 1 - j := by omega
      repeat' ((try (conv => whnf)); (first | refine Pick.mk pm129_12 (by decide +kernel) ?_ | refine Pick.mk _ (shr_u64 x _ (by omega) (by omega)) ?_ | refine Pick.mk _ (and_u64 _ 1#64) ?_ | (refine CallVC.mutT (wobj wp A C E (bs ++ topBits x wd j) nn) [] (List.Perm.of_eq (List.append_nil _).symm) (fun w2 h2 h3 => push_m wp A C E (bs ++ topBits x wd j) (x.getLsbD xk.toNat) nn _ (by rw [List.length_append]; omega) (by rw [List.length_append]; omega) hO (bit_is x xk.toNat) w2 h3) ?_; rintro v H ⟨A', C', E', hO', rfl⟩) | refine Pick.mk pl129_12 (by decide +kernel) ?_ | refine Need.au ?_ | (refine Split.mk (fun hsplit => ?_) (fun hsplit => ?_) <;> (try simp only [List.cons.injEq, and_true, true_and, not_true_eq_false, not_false_eq_true] at hsplit) <;> try (exfalso; omega)) | refine Pick.au ?_ | refine store_au ?_ | refine Any.mk (fun _ => ?_) | refine Both.mk ?_ ?_)); all_goals (try (conv => whnf))
      have e : bs ++ topBits x wd (j + 1) = bs ++ topBits x wd j ++ [x.getLsbD xk.toNat] := by rw [topBits, hk, List.append_assoc]
      exact again (m - 1) (by omega) (Sub.cons rfl (Sub.cons rfl (Sub.cons rfl Sub.nil))) (by rw [← e]; simp) ⟨j + 1, _, nn + 1, A', C', E', by omega, by omega, by omega, by rw [e]; exact hO', rfl, rfl⟩
    · obtain rfl : j = wd := by omega
      repeat' ((try (conv => whnf)); (first | refine Pick.mk pm129_12 (by decide +kernel) ?_ | refine Pick.mk pl129_12 (by decide +kernel) ?_ | refine Need.au ?_ | (refine Split.mk (fun hsplit => ?_) (fun hsplit => ?_) <;> (try simp only [List.cons.injEq, and_true, true_and, not_true_eq_false, not_false_eq_true] at hsplit) <;> try (exfalso; omega)) | refine Pick.au ?_ | refine store_au ?_ | refine Any.mk (fun _ => ?_) | refine Both.mk ?_ ?_)); all_goals (try (conv => whnf))
      exact Done.mk ⟨_, List.Sublist.refl _, A, C, E, rfl, hO, by rw [hnn]; rfl⟩
end
section
set_option linter.unusedVariables false
set_option linter.unusedSimpArgs false
set_option maxRecDepth 100000
set_option maxHeartbeats 8000000
open Go
attribute [local irreducible] bitsOf shlOf shrOf
/-- Bytes' bits. -/
def bytesBits : List B8 → List Bool
  | [] => []
  | c :: r => numBits (c.setWidth 64) 8 ++ bytesBits r
theorem bytesBits_app (l m : List B8) : bytesBits (l ++ m) = bytesBits l ++ bytesBits m := by
  induction l with
  | nil => rfl
  | cons c l ih => simp only [List.cons_append, bytesBits, ih, List.append_assoc]
theorem bytesBits_len (l : List B8) : (bytesBits l).length = 8 * l.length := by
  induction l with
  | nil => rfl
  | cons c l ih => rw [bytesBits, List.length_append, ih, numBits, topBits_len, List.length_cons]; omega
theorem bytes_step (l : List B8) (i : Nat) (hi : i < l.length) : bytesBits (l.take (i + 1)) = bytesBits (l.take i) ++ numBits ((l.getD i 0).setWidth 64) 8 := by
  rw [List.take_succ_eq_append_getElem hi, bytesBits_app, List.getD_eq_getElem?_getD, List.getElem?_eq_getElem hi]
  simp [bytesBits]
theorem conv_u8_64 (x : B8) : ((x.setWidth 64).toNat : Int) = IntKind.u64.wrap (x.toNat : Int) := by
  have h := x.isLt
  simp [IntKind.wrap, IntKind.signed, IntKind.bits, BitVec.toNat_setWidth]
theorem bytes_m (wp : Nat) (A : Option Addr) (C : Nat) (E : Hp) (bs : List Bool) (n : Int) (B : Option Addr) (l : List B8) (cb : Nat) (hn : n = bs.length) (hl : l.length ≤ 1024) (hb : bs.length + 8 * l.length ≤ 8192) (hO : Own A (pack bs) C E) (w : World) (hB : At w B (l.map b8)) (hd : l ≠ [] → ∀ a, B = some a → a.block ∉ ids (wobj wp A C E bs n))
    (hw : St ⟨Tryz.prog, w, ids (wobj wp A C E bs n)⟩ (wobj wp A C E bs n) w) :
    Mut Tryz.prog 54 [.pointer (some ⟨wp, 0, none⟩), .slice B l.length cb] w (wobj wp A C E bs n) fun v hs2 => ∃ H, List.Sublist H hs2 ∧ ∃ A' C' E', v = .int .i64 0 ∧ Own A' (pack (bs ++ bytesBits l)) C' E' ∧ H = wobj wp A' C' E' (bs ++ bytesBits l) (n + 8 * l.length) := by
  refine mut_vc tab_ok Tryz.func54 rfl rfl hw ?_
  repeat' ((try (conv => whnf)); (first | refine Pick.mk pm54_12 (by decide +kernel) ?_ | refine CallVC.val (fun w2 h2 => rnone_v wp _ _ _ _ w2 (at_in mem_end h2)) ?_ | refine CallVC.val (fun w2 h2 => rroom_v wp _ _ _ n (8 * l.length) (by omega) (by omega) w2 (at_in mem_end h2)) ?_ | refine Pick.mk pl54_12 (by decide +kernel) ?_ | refine Need.au ?_ | (refine Split.mk (fun hsplit => ?_) (fun hsplit => ?_) <;> (try simp only [List.cons.injEq, and_true, true_and, not_true_eq_false, not_false_eq_true] at hsplit) <;> try (exfalso; omega)) | refine Pick.au ?_ | refine store_au ?_ | refine Any.mk (fun _ => ?_) | refine Both.mk ?_ ?_)); all_goals (try (conv => whnf))
  refine LoopVC.mk (fun m env hs => ∃ (i : Nat) (xi nn : Int) (A : Option Addr) (C : Nat) (E : Hp), xi = i ∧ nn = n + 8 * i ∧ i + m = l.length ∧ Own A (pack (bs ++ bytesBits (l.take i))) C E ∧ env = [(0, .pointer (some ⟨wp, 0, none⟩)), (29, .slice B l.length cb), (30, .int .i64 l.length), (31, .int .i64 xi)] ∧ hs = wobj wp A C E (bs ++ bytesBits (l.take i)) nn) l.length
    (Weak.mk (Sub.cons rfl (Sub.cons rfl (Sub.cons rfl (Sub.cons rfl Sub.nil)))) (by simp [bytesBits]) ⟨0, 0, n, A, C, E, by omega, by omega, by omega, by simpa [bytesBits] using hO, rfl, rfl⟩) ?_
  rintro m env hs ⟨i, xi, nn, A', C', E', hxi, hnn, hj, hO', rfl, rfl⟩
  have htl := bytesBits_len (l.take i)
  rw [List.length_take] at htl
  by_cases hil : i < l.length
  · obtain ⟨b, rfl⟩ := hB.is (by rw [List.length_map]; omega)
    have hd2 := hd (by intro h; rw [h] at hil; cases hil) b rfl
    have hxn : xi.toNat = i := by omega
    repeat' ((try (conv => whnf)); (first | refine Pick.mk pm54_12 (by decide +kernel) ?_ | refine Pick.mk _ (cell_arg hB hd2 (by omega)) ?_ | refine Pick.mk pl54_12 (by decide +kernel) ?_ | refine Need.au ?_ | (refine Split.mk (fun hsplit => ?_) (fun hsplit => ?_) <;> (try simp only [List.cons.injEq, and_true, true_and, not_true_eq_false, not_false_eq_true] at hsplit) <;> try (exfalso; omega)) | refine Pick.au ?_ | refine store_au ?_ | refine Any.mk (fun _ => ?_) | refine Both.mk ?_ ?_)); all_goals (try (conv => whnf))
    obtain ⟨c, hc⟩ : ∃ c, c = l.getD xi.toNat 0 := ⟨_, rfl⟩
    rw [← hc]
    refine LoopVC.mk (fun m env hs => ∃ (j : Nat) (xk n2 : Int) (A : Option Addr) (C : Nat) (E : Hp), xk = 7 - (j : Int) ∧ n2 = nn + j ∧ j + m = 8 ∧ Own A (pack (bs ++ bytesBits (l.take i) ++ topBits (c.setWidth 64) 8 j)) C E ∧
      env = [(0, .pointer (some ⟨wp, 0, none⟩)), (6, b8 c), (7, .int .i64 xk), (29, .slice (some b) l.length cb), (30, .int .i64 l.length), (31, .int .i64 xi)] ∧ hs = wobj wp A C E (bs ++ bytesBits (l.take i) ++ topBits (c.setWidth 64) 8 j) n2) 8
      (Weak.mk (Sub.cons rfl (Sub.cons rfl (Sub.cons rfl (Sub.cons rfl (Sub.cons rfl (Sub.cons rfl Sub.nil)))))) (by rw [topBits, List.append_nil]; exact List.Sublist.refl _) ⟨0, 7, nn, A', C', E', by omega, by omega, by omega, by rw [topBits, List.append_nil]; exact hO', rfl, rfl⟩) ?_
    rintro m2 env hs ⟨j, xk, n2, A2, C2, E2, hxk, hn2, hj2, hO2, rfl, rfl⟩
    have htl2 := topBits_len (c.setWidth 64) 8 j
    by_cases hj8 : j < 8
    · have hk : xk.toNat = 8 - 1 - j := by omega
      repeat' ((try (conv => whnf)); (first | refine Pick.mk pm54_12 (by decide +kernel) ?_ | refine Pick.mk _ (conv_u8_64 c) ?_ | refine Pick.mk _ (shr_u64 (c.setWidth 64) _ (by omega) (by omega)) ?_ | refine Pick.mk _ (and_u64 _ 1#64) ?_ | (refine CallVC.mutT (wobj wp A2 C2 E2 (bs ++ bytesBits (l.take i) ++ topBits (c.setWidth 64) 8 j) n2) [] (List.Perm.of_eq (List.append_nil _).symm) (fun w2 h2 h3 => push_m wp A2 C2 E2 (bs ++ bytesBits (l.take i) ++ topBits (c.setWidth 64) 8 j) ((c.setWidth 64).getLsbD xk.toNat) n2 _ (by rw [List.length_append, List.length_append]; omega) (by rw [List.length_append, List.length_append]; omega) hO2 (bit_is (c.setWidth 64) xk.toNat) w2 h3) ?_; rintro v H ⟨A3, C3, E3, hO3, rfl⟩) | refine Pick.mk pl54_12 (by decide +kernel) ?_ | refine Need.au ?_ | (refine Split.mk (fun hsplit => ?_) (fun hsplit => ?_) <;> (try simp only [List.cons.injEq, and_true, true_and, not_true_eq_false, not_false_eq_true] at hsplit) <;> try (exfalso; omega)) | refine Pick.au ?_ | refine store_au ?_ | refine Any.mk (fun _ => ?_) | refine Both.mk ?_ ?_)); all_goals (try (conv => whnf))
      have e : bs ++ bytesBits (l.take i) ++ topBits (c.setWidth 64) 8 (j + 1) = bs ++ bytesBits (l.take i) ++ topBits (c.setWidth 64) 8 j ++ [(c.setWidth 64).getLsbD xk.toNat] := by rw [topBits, hk]; simp only [List.append_assoc]
      exact again (m2 - 1) (by omega) (Sub.cons rfl (Sub.cons rfl (Sub.cons rfl (Sub.cons rfl (Sub.cons rfl (Sub.cons rfl Sub.nil)))))) (by rw [← e]; simp) ⟨j + 1, _, n2 + 1, A3, C3, E3, by omega, by omega, by omega, by rw [e]; exact hO3, rfl, rfl⟩
    · obtain rfl : j = 8 := by omega
      have e : bs ++ bytesBits (l.take i) ++ topBits (c.setWidth 64) 8 8 = bs ++ bytesBits (l.take (i + 1)) := by rw [bytes_step l i hil, List.append_assoc, hc, hxn]; rfl
      rw [e] at hO2 ⊢
      repeat' ((try (conv => whnf)); (first | refine Pick.mk pm54_12 (by decide +kernel) ?_ | refine Pick.mk pl54_12 (by decide +kernel) ?_ | refine Need.au ?_ | (refine Split.mk (fun hsplit => ?_) (fun hsplit => ?_) <;> (try simp only [List.cons.injEq, and_true, true_and, not_true_eq_false, not_false_eq_true] at hsplit) <;> try (exfalso; omega)) | refine Pick.au ?_ | refine store_au ?_ | refine Any.mk (fun _ => ?_) | refine Both.mk ?_ ?_)); all_goals (try (conv => whnf))
      exact again (m - 1) (by omega) (Sub.cons rfl (Sub.cons rfl (Sub.cons rfl (Sub.cons rfl Sub.nil)))) (List.Sublist.refl _) ⟨i + 1, _, n2, A2, C2, E2, by omega, by omega, by omega, hO2, rfl, rfl⟩
  · obtain rfl : i = l.length := by omega
    repeat' ((try (conv => whnf)); (first | refine Pick.mk pm54_12 (by decide +kernel) ?_ | refine Pick.mk pl54_12 (by decide +kernel) ?_ | refine Need.au ?_ | (refine Split.mk (fun hsplit => ?_) (fun hsplit => ?_) <;> (try simp only [List.cons.injEq, and_true, true_and, not_true_eq_false, not_false_eq_true] at hsplit) <;> try (exfalso; omega)) | refine Pick.au ?_ | refine store_au ?_ | refine Any.mk (fun _ => ?_) | refine Both.mk ?_ ?_)); all_goals (try (conv => whnf))
    rw [List.take_length] at hO' ⊢
    exact Done.mk ⟨_, List.Sublist.refl _, A', C', E', rfl, hO', by rw [hnn]⟩
end
section
set_option linter.unusedVariables false
set_option linter.unusedSimpArgs false
set_option maxRecDepth 100000
set_option maxHeartbeats 8000000
open Go
attribute [local irreducible] bitsOf shlOf shrOf
theorem newwriter_r (w : World) : Ret Tryz.prog 88 [] w fun v hs => ∃ wp, v = .pointer (some ⟨wp, 0, none⟩) ∧ hs = wobj wp none 0 [] [] 0 := by
  refine ret_vc tab_ok Tryz.func88 rfl rfl ?_
  repeat' ((try (conv => whnf)); (first | refine Need.au ?_ | (refine Split.mk (fun hsplit => ?_) (fun hsplit => ?_) <;> (try simp only [List.cons.injEq, and_true, true_and, not_true_eq_false, not_false_eq_true] at hsplit) <;> try (exfalso; omega)) | refine Pick.au ?_ | refine store_au ?_ | refine Any.mk (fun _ => ?_) | refine Both.mk ?_ ?_)); all_goals (try (conv => whnf))
  exact Done.mk ⟨_, rfl, rfl⟩
theorem done_r (wp : Nat) (A : Option Addr) (l : List B8) (C : Nat) (n : Int) (hl : l.length ≤ 100000) (w : World) (hP : At w (some ⟨wp, 0, none⟩) [.slice A l.length C, .int .i64 n, .bool true]) (hA : At w A (l.map b8)) :
    Ret Tryz.prog 56 [.pointer (some ⟨wp, 0, none⟩)] w (Gives 5 (l.map b8)) := by
  refine ret_vc tab_ok Tryz.func56 rfl rfl ?_
  repeat' ((try (conv => whnf)); (first | refine Pick.mk _ (cell_known hP (by simp) rfl) ?_ | refine CallVC.val (fun w2 h2 => rnone_v wp _ _ _ _ w2 (hP.here h2 (fun _ _ => by simp))) ?_ | refine Need.mk ⟨by omega, by omega, by show (l.length : Int) * 1 ≤ _; omega, by decide⟩ ?_ | (refine CopyVC.bytes (ys := l) tab_ok rfl rfl rfl rfl (Holds.at (by rw [List.length_map]) hA (by simp)) (by repeat (first | exact Upd.head _ | apply Upd.tail)) (by omega) (by rw [zw_len]; omega) soft0 ?_) | refine Need.au ?_ | (refine Split.mk (fun hsplit => ?_) (fun hsplit => ?_) <;> (try simp only [List.cons.injEq, and_true, true_and, not_true_eq_false, not_false_eq_true] at hsplit) <;> try (exfalso; omega)) | refine Pick.au ?_ | refine store_au ?_ | refine Any.mk (fun _ => ?_) | refine Both.mk ?_ ?_)); all_goals (try (conv => whnf))
  rw [Int.toNat_natCast, List.drop_of_length_le (by rw [zw_len]; exact Nat.le_refl _), List.append_nil]
  exact Done.mk (Gives.all (List.Mem.head _) rfl (by rw [List.length_map]) (by rw [List.length_map]))
end
end Go.Proofs.YtnlheljpagpiiaaGreat
