/-
  Bytes and words put behind one another, in the program and in the document; every input. Words put behind bytes; what a digest is in memory; what is left of it, filled up.
-/
import Derived.Test.YtnlheljpagpiiaaGreatSc
import Derived.Test.YtnlheljpagpiiaaGreatMe
namespace Go.Proofs.YtnlheljpagpiiaaGreat
section
set_option linter.unusedVariables false
set_option linter.unusedSimpArgs false
set_option maxRecDepth 100000
set_option maxHeartbeats 4000000
open Go
attribute [local irreducible] bitsOf shlOf shrOf

theorem take_step {α : Type} (l : List α) (i : Nat) (hi : i < l.length) : l.take (i + 1) = l.take i ++ [l[i]] := by
  rw [List.take_succ_eq_append_getElem hi]
theorem puts_step (ls : List W32) (i : Nat) (hi : i < ls.length) : ((ls.take (i + 1)).map put32).flatten = ((ls.take i).map put32).flatten ++ put32 (ls.getD i 0) := by
  rw [take_step _ _ hi, List.map_append, List.flatten_append, List.getD_eq_getElem?_getD, List.getElem?_eq_getElem hi]
  simp
theorem puts_len (ls : List W32) : (ls.map put32).flatten.length = 4 * ls.length := by
  induction ls with
  | nil => rfl
  | cons x r ih => simp only [List.map_cons, List.flatten_cons, List.length_append, ih, List.length_cons]; simp [put32]; omega
theorem rput_r (A : Option Addr) (bs : List B8) (c : Nat) (la : Addr) (ls : List W32) (c' : Nat) (hb : bs.length + 4 * ls.length ≤ 100000000) (w : World) (h : At w A (bs.map b8)) (hl : At w (some la) (ls.map w32)) :
    Ret Tryz.prog 148 [.slice A bs.length c, .slice (some la) ls.length c'] w (Gives 5 ((bs ++ (ls.map put32).flatten).map b8)) := by
  refine ret_vc tab_ok Tryz.func148 rfl rfl ?_
  repeat' ((try (conv => whnf)); (first | (refine AppendVC.bytes (xs := []) (r := []) tab_ok apb rfl (by repeat (first | exact Take.head _ | apply Take.tail)) soft0 rfl rfl (Holds.at (by simp) h (by simp)) (by show (2 * (0 + _) + 192) * 1 ≤ _; omega) (fun b5 r5 fr5 hf5 => ?_)) | refine Pick.mk pl148_5 (by decide +kernel) ?_ | refine Need.au ?_ | (refine Split.mk (fun hsplit => ?_) (fun hsplit => ?_) <;> (try simp only [List.cons.injEq, and_true, true_and, not_true_eq_false, not_false_eq_true] at hsplit) <;> try (exfalso; omega)) | refine Pick.au ?_ | refine store_au ?_ | refine Any.mk (fun _ => ?_) | refine Both.mk ?_ ?_)); all_goals (try (conv => whnf))
  refine LoopVC.mk (fun n env hs => ∃ (i : Nat) (x : Int) (b k cap : Nat) (r : List Value) (fr : Nat × Nat) (xs : List B8), x = i ∧ i + n = ls.length ∧ xs = bs ++ ((ls.take i).map put32).flatten ∧ k = xs.length ∧ cap = (xs.map b8 ++ r).length ∧ Soft fr (xs.map b8 ++ r).length ∧
    env = [(1, .slice (some la) ls.length c'), (5, .slice (some ⟨b, 0, none⟩) k cap), (6, .int .i64 x)] ∧ hs = [⟨b, xs.map b8 ++ r, 5, fr⟩]) ls.length
    (Weak.mk (Sub.cons rfl (Sub.cons rfl (Sub.cons rfl Sub.nil))) (List.Sublist.refl _) ⟨0, 0, b5, _, _, r5, fr5, [] ++ bs, rfl, by omega, by simp, by simp, rfl, hf5, rfl, rfl⟩) ?_
  rintro n env hs ⟨i, _, b, _, _, r, fr, xs, rfl, hi, hx, rfl, rfl, hf, rfl, rfl⟩
  have hxl : i ≤ ls.length → xs.length = bs.length + 4 * i := fun h => by rw [hx, List.length_append, puts_len, List.length_take]; omega
  have hxl := hxl (by omega)
  repeat' ((try (conv => whnf)); (first | refine Pick.mk _ (word_arg hl (by simp) (by omega)) ?_ | refine Pick.mk _ (shr_u32 _ _ (by omega) (by omega)) ?_ | refine Pick.mk _ (conv32_8 _) ?_ | (refine AppendVC.bytes (ys := put32 (ls.getD (i : Int).toNat 0)) tab_ok apb rfl (by repeat (first | exact Take.head _ | apply Take.tail)) hf rfl rfl (Holds.own (by repeat (first | exact List.Mem.head _ | refine List.Mem.tail _ ?_)) 0 rfl rfl) (by show (2 * (_ + 4) + 192) * 1 ≤ _; omega) (fun b5 r5 fr5 hf5 => ?_)) | refine Pick.mk pl148_5 (by decide +kernel) ?_ | refine Need.au ?_ | (refine Split.mk (fun hsplit => ?_) (fun hsplit => ?_) <;> (try simp only [List.cons.injEq, and_true, true_and, not_true_eq_false, not_false_eq_true] at hsplit) <;> try (exfalso; omega)) | refine Pick.au ?_ | refine store_au ?_ | refine Any.mk (fun _ => ?_) | refine Both.mk ?_ ?_)); all_goals (try (conv => whnf))
  · refine again (n - 1) (by omega) (Sub.cons rfl (Sub.cons rfl (Sub.cons rfl Sub.nil))) (by repeat (first | exact List.Sublist.refl _ | exact List.nil_sublist _ | refine List.Sublist.cons_cons _ ?_ | refine List.Sublist.cons _ ?_)) ⟨i + 1, _, _, _, _, _, _, _, by omega, by omega, ?_, ?_, rfl, ‹_›, rfl, rfl⟩
    · rw [puts_step _ _ (by omega), ← List.append_assoc, ← hx, Int.toNat_natCast]
    · rw [List.length_append]; rfl
  · obtain rfl : i = ls.length := by omega
    refine Done.mk ?_
    rw [List.take_length] at hx
    subst hx
    exact Gives.mk (by repeat (first | exact List.Mem.head _ | refine List.Mem.tail _ ?_)) (by rw [List.length_map]) rfl hf
theorem put64_eq (x : BitVec 64) : put32 ((x >>> 32).setWidth 32) ++ put32 (x.setWidth 32) = put64 x := by
  simp only [put32, put64, List.cons_append, List.nil_append]
  have e : ∀ (y : BitVec 64) (k : Nat), k ≤ 24 → ((y.setWidth 32) >>> k).setWidth 8 = (y >>> k).setWidth 8 := by
    intro y k hk
    apply BitVec.eq_of_getLsbD_eq
    intro i hi
    simp only [BitVec.getLsbD_setWidth, BitVec.getLsbD_ushiftRight, hi, decide_true, Bool.true_and]
    rw [show decide (k + i < 32) = true from decide_eq_true (by omega), Bool.true_and]
  have e0 : ∀ (y : BitVec 64), (y.setWidth 32).setWidth 8 = y.setWidth 8 := by
    intro y
    apply BitVec.eq_of_getLsbD_eq
    intro i hi
    simp only [BitVec.getLsbD_setWidth, hi, decide_true, Bool.true_and]
    rw [show decide (i < 32) = true from decide_eq_true (by omega), Bool.true_and]
  rw [e _ 24 (by omega), e _ 16 (by omega), e _ 8 (by omega), e _ 24 (by omega), e _ 16 (by omega), e _ 8 (by omega), e0, e0]
  simp only [← BitVec.shiftRight_add]
theorem rputlong_r (A : Option Addr) (bs : List B8) (c : Nat) (x : BitVec 64) (hb : bs.length ≤ 90000000) (w : World) (h : At w A (bs.map b8)) :
    Ret Tryz.prog 110 [.slice A bs.length c, w64 x] w (Gives 5 ((bs ++ put64 x).map b8)) := by
  have pt : ∀ {hs : Hp} {b c' : Nat} {cs : List Value} {t : Nat} {fr : Nat × Nat} (hm : (⟨b, cs, t, fr⟩ : Ent) ∈ hs) (hx : cs = [w32 ((x >>> (32 : Int).toNat).setWidth 32), w32 (x.setWidth 32)]) (w' : World), St ⟨Tryz.prog, w, []⟩ hs w' →
      Ret Tryz.prog 148 [.slice A bs.length c, .slice (some ⟨b, 0, none⟩) 2 c'] w' (Gives 5 ((bs ++ put64 x).map b8)) := by
    intro hs b c' cs t fr hm hx w' hw
    subst hx
    have := rput_r A bs c ⟨b, 0, none⟩ [(x >>> (32 : Int).toNat).setWidth 32, x.setWidth 32] c' (by simp; omega) w' (h.old hw (fun _ _ => by simp)) (fun i v hv => ⟨_, rfl, by rw [add_plain, hw.cell hm, Nat.zero_add]; exact hv⟩)
    simp only [List.map_cons, List.map_nil, List.flatten_cons, List.flatten_nil, List.append_nil] at this
    rw [show put32 ((x >>> (32 : Int).toNat).setWidth 32) ++ put32 (x.setWidth 32) = put64 x from put64_eq x] at this
    exact this
  refine ret_vc tab_ok Tryz.func110 rfl rfl ?_
  repeat' ((try (conv => whnf)); (first | refine Pick.mk _ (shr_u64 _ _ (by omega) (by omega)) ?_ | refine Pick.mk _ (conv64_32 _) ?_ | refine CallVC.gives (fun w hw => pt (by repeat (first | exact List.Mem.head _ | refine List.Mem.tail _ ?_)) rfl w hw) (fun b r fr hf => ?_) | refine Need.au ?_ | (refine Split.mk (fun hsplit => ?_) (fun hsplit => ?_) <;> (try simp only [List.cons.injEq, and_true, true_and, not_true_eq_false, not_false_eq_true] at hsplit) <;> try (exfalso; omega)) | refine Pick.au ?_ | refine store_au ?_ | refine Any.mk (fun _ => ?_) | refine Both.mk ?_ ?_)); all_goals (try (conv => whnf))
  exact Done.mk (Gives.mk (by repeat (first | exact List.Mem.head _ | refine List.Mem.tail _ ?_)) (by rw [List.length_map]) rfl hf)
/-! ### The program -/
theorem zerosL_len (n : Nat) : (zerosL n ty5.zero).length = n := by
  show (List.replicate n _).length = n
  simp
theorem own_r (A : Option Addr) (bs : List B8) (c n : Nat) (hb : bs.length + n ≤ 100000000) (w : World) (h : At w A (bs.map b8)) :
    Ret Tryz.prog 158 [.slice A bs.length c, .int .i64 n] w (Gives 5 (bs.map b8)) := by
  refine ret_vc tab_ok Tryz.func158 rfl rfl ?_
  repeat' ((try (conv => whnf)); (first | refine Need.mk ⟨by omega, by omega, by show (_ : Int) * ((1 : Nat) : Int) ≤ _; omega, by decide⟩ ?_ | refine CopyVC.bytes tab_ok rfl rfl rfl rfl (Holds.at (by simp) h (by simp)) (by repeat (first | exact Upd.head _ | apply Upd.tail)) (by omega) (by rw [zerosL_len]; omega) soft0 ?_ | refine Need.au ?_ | (refine Split.mk (fun hsplit => ?_) (fun hsplit => ?_) <;> (try simp only [List.cons.injEq, and_true, true_and, not_true_eq_false, not_false_eq_true] at hsplit) <;> try (exfalso; omega)) | refine Pick.au ?_ | refine store_au ?_ | refine Any.mk (fun _ => ?_) | refine Both.mk ?_ ?_)); all_goals (try (conv => whnf))
  rename_i b
  have hz : (bs.map b8 ++ (zerosL ((bs.length : Int) + (n : Int)).toNat ty5.zero).drop bs.length).length = ((bs.length : Int) + (n : Int)).toNat := by
    rw [List.length_append, List.length_map, List.length_drop, zerosL_len]; omega
  exact Done.mk (Gives.mk (by repeat (first | exact List.Mem.head _ | refine List.Mem.tail _ ?_)) (by rw [List.length_map]; omega) hz.symm soft0)
/-- A number's last bytes, the greatest first. -/
def tail8 (x : BitVec 64) (n : Nat) : List B8 := (List.range n).map fun i => (x >>> (8 * (n - 1 - i))).setWidth 8
theorem tail8_cons (x : BitVec 64) (n : Nat) : tail8 x (n + 1) = (x >>> (8 * n)).setWidth 8 :: tail8 x n := by
  simp only [tail8, List.range_succ_eq_map, List.map_cons, List.map_map]
  refine congr (congrArg _ ?_) (List.map_congr_left fun i hi => ?_)
  · rfl
  · simp only [Function.comp]
    congr 3
    omega
theorem spread_m (b : Nat) (xs : List B8) (r : List Value) (fr : Nat × Nat) (x : BitVec 64) (n : Nat) (hn : n ≤ 8) (hb : xs.length ≤ 100000000) (hf : Soft fr (xs.map b8 ++ r).length) (w : World) (hw : St ⟨Tryz.prog, w, [b]⟩ [⟨b, xs.map b8 ++ r, 5, fr⟩] w) :
    Mut Tryz.prog 157 [.slice (some ⟨b, 0, none⟩) xs.length (xs.map b8 ++ r).length, w64 x, .int .i64 n] w [⟨b, xs.map b8 ++ r, 5, fr⟩] (Gives 5 ((xs ++ tail8 x n).map b8)) := by
  refine mut_vc tab_ok Tryz.func157 rfl rfl hw ?_
  repeat' ((try (conv => whnf)); (first | refine Need.au ?_ | (refine Split.mk (fun hsplit => ?_) (fun hsplit => ?_) <;> (try simp only [List.cons.injEq, and_true, true_and, not_true_eq_false, not_false_eq_true] at hsplit) <;> try (exfalso; omega)) | refine Pick.au ?_ | refine store_au ?_ | refine Any.mk (fun _ => ?_) | refine Both.mk ?_ ?_)); all_goals (try (conv => whnf))
  refine LoopVC.mk (fun k env hs => ∃ (i : Nat) (y : Int) (b m cap : Nat) (r : List Value) (fr : Nat × Nat) (zs : List B8), y = (i : Int) - 1 ∧ i = k ∧ i ≤ n ∧ zs ++ tail8 x i = xs ++ tail8 x n ∧ zs.length + i = xs.length + n ∧ m = zs.length ∧ cap = (zs.map b8 ++ r).length ∧ Soft fr (zs.map b8 ++ r).length ∧
    env = [(0, .slice (some ⟨b, 0, none⟩) m cap), (1, w64 x), (7, .int .i64 y)] ∧ hs = [⟨b, zs.map b8 ++ r, 5, fr⟩]) n
    (Weak.mk (Sub.cons rfl (Sub.cons rfl (Sub.cons rfl Sub.nil))) (List.Sublist.refl _) ⟨n, _, b, _, _, r, fr, xs, rfl, rfl, by omega, rfl, rfl, rfl, rfl, hf, rfl, rfl⟩) ?_
  rintro k env hs ⟨i, _, b, _, _, r, fr, zs, rfl, rfl, hi, hz, hzl, rfl, rfl, hf, rfl, rfl⟩
  repeat' ((try (conv => whnf)); (first | refine Pick.mk _ (shr_u64 _ _ (by omega) (by omega)) ?_ | refine Pick.mk _ (conv64_8 _) ?_ | (refine AppendVC.bytes (ys := [(x >>> (8 * ((i : Int) - 1)).toNat).setWidth 8]) tab_ok apb rfl (by repeat (first | exact Take.head _ | apply Take.tail)) hf rfl rfl (Holds.own (by repeat (first | exact List.Mem.head _ | refine List.Mem.tail _ ?_)) 0 rfl rfl) (by show (2 * (_ + 1) + 192) * 1 ≤ _; omega) (fun b5 r5 fr5 hf5 => ?_)) | refine Need.au ?_ | (refine Split.mk (fun hsplit => ?_) (fun hsplit => ?_) <;> (try simp only [List.cons.injEq, and_true, true_and, not_true_eq_false, not_false_eq_true] at hsplit) <;> try (exfalso; omega)) | refine Pick.au ?_ | refine store_au ?_ | refine Any.mk (fun _ => ?_) | refine Both.mk ?_ ?_)); all_goals (try (conv => whnf))
  · obtain ⟨j, rfl⟩ : ∃ j, i = j + 1 := ⟨i - 1, by omega⟩
    refine again j (by omega) (Sub.cons rfl (Sub.cons rfl (Sub.cons rfl Sub.nil))) (by repeat (first | exact List.Sublist.refl _ | exact List.nil_sublist _ | refine List.Sublist.cons_cons _ ?_ | refine List.Sublist.cons _ ?_)) ⟨j, _, _, _, _, _, _, _, by omega, rfl, by omega, ?_, ?_, ?_, rfl, ‹_›, rfl, rfl⟩
    · rw [List.append_assoc, show (8 * (((j + 1 : Nat) : Int) - 1)).toNat = 8 * j by omega, List.singleton_append, ← tail8_cons, hz]
    · rw [List.length_append]; simp; omega
    · rw [List.length_append]; rfl
  · obtain rfl : i = 0 := by omega
    refine Done.mk ?_
    have hz : zs = xs ++ tail8 x n := by rw [← hz]; simp [tail8]
    subst hz
    exact Gives.mk (by repeat (first | exact List.Mem.head _ | refine List.Mem.tail _ ?_)) (by rw [List.length_map]) rfl hf
end
section
set_option linter.unusedVariables false
set_option linter.unusedSimpArgs false
set_option maxRecDepth 100000
set_option maxHeartbeats 4000000
open Go
attribute [local irreducible] bitsOf shlOf shrOf

theorem tail8_64 (x : BitVec 64) : tail8 x 8 = put64 x := by
  simp only [tail8, put64, List.range_succ, List.range_zero, List.nil_append, List.cons_append, List.map_cons, List.map_nil]
  rfl
theorem tail8_32 (x : W32) : tail8 (x.setWidth 64) 4 = put32 x := by
  have e : ∀ k : Nat, ((x.setWidth 64) >>> k).setWidth 8 = (x >>> k).setWidth 8 := by
    intro k
    apply BitVec.eq_of_getLsbD_eq
    intro i hi
    simp only [BitVec.getLsbD_setWidth, BitVec.getLsbD_ushiftRight, hi, decide_true, Bool.true_and]
    by_cases h : k + i < 64
    · rw [decide_eq_true h, Bool.true_and]
    · rw [BitVec.getLsbD_of_ge x (k + i) (by omega), Bool.and_false]
  simp only [tail8, put32, List.range_succ, List.range_zero, List.nil_append, List.cons_append, List.map_cons, List.map_nil, e]
  rfl
theorem putlong_r (A : Option Addr) (bs : List B8) (c : Nat) (x : BitVec 64) (hb : bs.length ≤ 90000000) (w : World) (h : At w A (bs.map b8)) :
    Ret Tryz.prog 139 [.slice A bs.length c, w64 x] w (Gives 5 ((bs ++ put64 x).map b8)) := by
  rw [← tail8_64]
  refine ret_vc tab_ok Tryz.func139 rfl rfl ?_
  repeat' ((try (conv => whnf)); (first | refine CallVC.givesB (fun w hw => own_r A bs c 8 (by omega) w (h.here hw (fun _ _ => by simp))) (fun b r fr hf => ?_) | refine CallVC.mutGB [_] [] (List.Perm.refl _) (fun w hw hp => spread_m _ bs _ _ x 8 (by omega) (by omega) ‹_› w hp) (fun b2 r2 fr2 hf2 => ?_) | refine Need.au ?_ | (refine Split.mk (fun hsplit => ?_) (fun hsplit => ?_) <;> (try simp only [List.cons.injEq, and_true, true_and, not_true_eq_false, not_false_eq_true] at hsplit) <;> try (exfalso; omega)) | refine Pick.au ?_ | refine store_au ?_ | refine Any.mk (fun _ => ?_) | refine Both.mk ?_ ?_)); all_goals (try (conv => whnf))
  exact Done.mk (Gives.mk (by repeat (first | exact List.Mem.head _ | refine List.Mem.tail _ ?_)) (by rw [List.length_map]) rfl ‹_›)
theorem put_r (A : Option Addr) (bs : List B8) (c : Nat) (la : Addr) (ls : List W32) (c' : Nat) (hb : bs.length + 4 * ls.length ≤ 90000000) (w : World) (h : At w A (bs.map b8)) (hl : At w (some la) (ls.map w32)) :
    Ret Tryz.prog 166 [.slice A bs.length c, .slice (some la) ls.length c'] w (Gives 5 ((bs ++ (ls.map put32).flatten).map b8)) := by
  refine ret_vc tab_ok Tryz.func166 rfl rfl ?_
  repeat' ((try (conv => whnf)); (first | refine CallVC.givesB (fun w hw => own_r A bs c (4 * ls.length) (by omega) w (h.here hw (fun _ _ => by simp))) (fun b r fr hf => ?_) | refine Need.au ?_ | (refine Split.mk (fun hsplit => ?_) (fun hsplit => ?_) <;> (try simp only [List.cons.injEq, and_true, true_and, not_true_eq_false, not_false_eq_true] at hsplit) <;> try (exfalso; omega)) | refine Pick.au ?_ | refine store_au ?_ | refine Any.mk (fun _ => ?_) | refine Both.mk ?_ ?_)); all_goals (try (conv => whnf))
  refine LoopVC.mk (fun n env hs => ∃ (i : Nat) (x : Int) (b k cap : Nat) (r : List Value) (fr : Nat × Nat) (xs : List B8), x = i ∧ i + n = ls.length ∧ xs = bs ++ ((ls.take i).map put32).flatten ∧ k = xs.length ∧ cap = (xs.map b8 ++ r).length ∧ Soft fr (xs.map b8 ++ r).length ∧
    env = [(5, .slice (some ⟨b, 0, none⟩) k cap), (13, .slice (some la) ls.length c'), (14, .int .i64 ls.length), (15, .int .i64 x)] ∧ hs = [⟨b, xs.map b8 ++ r, 5, fr⟩]) ls.length
    (Weak.mk (Sub.cons rfl (Sub.cons rfl (Sub.cons rfl (Sub.cons rfl Sub.nil)))) (List.Sublist.refl _) ⟨0, 0, b, _, _, r, fr, bs, rfl, by omega, by simp, rfl, rfl, hf, rfl, rfl⟩) ?_
  rintro n env hs ⟨i, _, b, _, _, r, fr, xs, rfl, hi, hx, rfl, rfl, hf, rfl, rfl⟩
  have hxl : xs.length = bs.length + 4 * i := by rw [hx, List.length_append, puts_len, List.length_take]; omega
  repeat' ((try (conv => whnf)); (first | refine Pick.mk _ (word_arg hl (by simp) (by omega)) ?_ | refine Pick.mk _ (conv32_64 _) ?_ | refine CallVC.mutGB [_] [] (List.Perm.refl _) (fun w hw hp => spread_m _ xs _ _ ((ls.getD (i : Int).toNat 0).setWidth 64) 4 (by omega) (by omega) hf w hp) (fun b2 r2 fr2 hf2 => ?_) | refine Need.au ?_ | (refine Split.mk (fun hsplit => ?_) (fun hsplit => ?_) <;> (try simp only [List.cons.injEq, and_true, true_and, not_true_eq_false, not_false_eq_true] at hsplit) <;> try (exfalso; omega)) | refine Pick.au ?_ | refine store_au ?_ | refine Any.mk (fun _ => ?_) | refine Both.mk ?_ ?_)); all_goals (try (conv => whnf))
  · refine again (n - 1) (by omega) (Sub.cons rfl (Sub.cons rfl (Sub.cons rfl (Sub.cons rfl Sub.nil)))) (by repeat (first | exact List.Sublist.refl _ | exact List.nil_sublist _ | refine List.Sublist.cons_cons _ ?_ | refine List.Sublist.cons _ ?_)) ⟨i + 1, _, _, _, _, _, _, _, by omega, by omega, ?_, rfl, rfl, ‹_›, rfl, rfl⟩
    rw [tail8_32, puts_step _ _ (by omega), ← List.append_assoc, ← hx, Int.toNat_natCast]
  · obtain rfl : i = ls.length := by omega
    refine Done.mk ?_
    rw [List.take_length] at hx
    subst hx
    exact Gives.mk (by repeat (first | exact List.Mem.head _ | refine List.Mem.tail _ ?_)) (by rw [List.length_map]) rfl hf
end
end Go.Proofs.YtnlheljpagpiiaaGreat
