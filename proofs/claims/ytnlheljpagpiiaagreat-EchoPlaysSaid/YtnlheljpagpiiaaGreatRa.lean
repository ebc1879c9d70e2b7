/-
  Sums of bits: what they are; the program's bits of bytes, one behind another; every input.
-/
import Derived.Test.YtnlheljpagpiiaaGreatMg
set_option linter.unusedVariables false
set_option linter.unusedSimpArgs false
set_option maxRecDepth 100000
set_option maxHeartbeats 8000000
namespace Go.Proofs.YtnlheljpagpiiaaGreat
open Go
attribute [local irreducible] bitsOf shlOf shrOf
/-- One bit more. -/
def crcStep (s : BitVec 32) (b : Bool) : BitVec 32 :=
  if ((s >>> 23) &&& 1#32) ^^^ (if b then 1#32 else 0#32) = 1#32 then ((s <<< 1) &&& 0xFFFFFF#32) ^^^ 0x5D6DCB#32 else (s <<< 1) &&& 0xFFFFFF#32
def crcOf (bs : List Bool) : BitVec 32 := bs.foldl crcStep 0xFEDCBA#32
def crcSum (l : List B8) : BitVec 32 := crcOf (bytesBits l)
theorem crcOf_next {bs : List Bool} {i : Nat} (h : i < bs.length) : crcOf (bs.take (i + 1)) = crcStep (crcOf (bs.take i)) (bs.getD i false) := by
  unfold crcOf
  rw [List.take_succ_eq_append_getElem h, List.foldl_append, List.getD_eq_getElem?_getD, List.getElem?_eq_getElem h]
  rfl
theorem topBits_get (x : BitVec 64) (wd : Nat) : ∀ n j : Nat, j < n → (topBits x wd n)[j]? = some (x.getLsbD (wd - 1 - j))
  | 0, j, h => absurd h (Nat.not_lt_zero j)
  | n + 1, j, h => by
    rw [topBits]
    have hl := topBits_len x wd n
    by_cases hj : j < n
    · rw [List.getElem?_append_left (by omega), topBits_get x wd n j hj]
    · obtain rfl : j = n := by omega
      rw [List.getElem?_append_right (by omega), hl, Nat.sub_self]
      rfl
theorem bytesBits_get : ∀ (l : List B8) (i j : Nat), i < l.length → j < 8 → (bytesBits l).getD (8 * i + j) false = (l.getD i 0).getLsbD (7 - j)
  | [], i, j, hi, _ => absurd hi (Nat.not_lt_zero i)
  | c :: r, 0, j, _, hj => by
    have hl := topBits_len (c.setWidth 64) 8 8
    rw [bytesBits, numBits, List.getD_eq_getElem?_getD, Nat.mul_zero, Nat.zero_add, List.getElem?_append_left (by omega), topBits_get _ _ _ _ hj]
    show (BitVec.setWidth 64 c).getLsbD (8 - 1 - j) = c.getLsbD (7 - j)
    rw [BitVec.getLsbD_setWidth, show decide (8 - 1 - j < 64) = true from decide_eq_true (by omega), Bool.true_and]
  | c :: r, i + 1, j, hi, hj => by
    have hl := topBits_len (c.setWidth 64) 8 8
    have ih := bytesBits_get r i j (by simpa using hi) hj
    rw [bytesBits, numBits, List.getD_eq_getElem?_getD, List.getElem?_append_right (by omega), hl, show 8 * (i + 1) + j - 8 = 8 * i + j by omega, ← List.getD_eq_getElem?_getD, ih]
    rfl
theorem bit_u32 (c : B8) (k : Nat) : (((c.setWidth 32) >>> k) &&& 1#32) = if c.getLsbD k then 1#32 else 0#32 := by
  apply BitVec.eq_of_getLsbD_eq
  intro i hi
  rw [BitVec.getLsbD_and, BitVec.getLsbD_ushiftRight, BitVec.getLsbD_setWidth]
  cases i with
  | zero =>
    rw [Nat.add_zero]
    cases h : c.getLsbD k
    · simp
    · have : k < 8 := by
        rcases Nat.lt_or_ge k 8 with h2 | h2
        · exact h2
        · rw [BitVec.getLsbD_of_ge _ _ h2] at h; cases h
      simp
      omega
  | succ i =>
    have e1 : (1#32 : BitVec 32).getLsbD (i + 1) = false := by simp [BitVec.getLsbD_one]
    rw [e1, Bool.and_false]
    cases c.getLsbD k <;> simp [BitVec.getLsbD_one]
theorem conv_u8_32 (x : B8) : ((x.setWidth 32).toNat : Int) = IntKind.u32.wrap (x.toNat : Int) := by
  have h := x.isLt
  simp [IntKind.wrap, IntKind.signed, IntKind.bits, BitVec.toNat_setWidth]
/-- What the iterator's captured variable holds. -/
structure KC (fp : List Nat) (b1 : Nat) (A : Option Addr) (l : List B8) (ck : Nat) (w : World) : Prop where
  h1 : At w (some ⟨b1, 0, none⟩) [.slice A l.length ck]
  hA : At w A (l.map b8)
  n1 : b1 ∉ fp
  nA : l.map b8 ≠ [] → ∀ a, A = some a → a.block ∉ fp
theorem KC.kept {fp : List Nat} {b1 : Nat} {A : Option Addr} {l : List B8} {ck : Nat} {w w' : World} (h : KC fp b1 A l ck w) (hk : Kept fp w w') : KC fp b1 A l ck w' :=
  ⟨h.h1.kept hk (fun a ha => by cases ha; exact h.n1), h.hA.keptB hk h.nA, h.n1, h.nA⟩
/-- The elements. -/
def bitEl (l : List B8) (i : Nat) (_ : World) (vs : Array Value) : Prop := vs = #[w32 (if (bytesBits l).getD i false then 1#32 else 0#32)]
theorem bits_r (A : Option Addr) (n ck : Nat) (w : World) :
    Ret Tryz.prog 154 [.slice A n ck] w fun v hs => ∃ b1, v = .func (.func 170) #[] #[.pointer (some ⟨b1, 0, none⟩)] ∧
      hs = [⟨b1, [.slice A n ck], 23, (0, 0)⟩] := by
  refine ret_vc tab_ok Tryz.func154 rfl rfl ?_
  repeat' ((try (conv => whnf)); (first | refine Need.au ?_ | (refine Split.mk (fun hsplit => ?_) (fun hsplit => ?_) <;> (try simp only [List.cons.injEq, and_true, true_and, not_true_eq_false, not_false_eq_true] at hsplit) <;> try (exfalso; omega)) | refine Pick.au ?_ | refine store_au ?_ | refine Any.mk (fun _ => ?_) | refine Both.mk ?_ ?_)); all_goals (try (conv => whnf))
  exact Done.mk ⟨_, rfl, rfl⟩
theorem bits_iter (fp : List Nat) (b1 : Nat) (A : Option Addr) (l : List B8) (ck : Nat) (hlk : l.length ≤ 1125899906842624) (W1 : World) (hK : KC fp b1 A l ck W1) :
    Iter Tryz.prog 170 #[.pointer (some ⟨b1, 0, none⟩)] W1 fp True (8 * l.length) (bitEl l) := by
  refine iter_vc Tryz.func170 rfl rfl rfl ?_
  intro y J Jx hJ hJx hy _ h0 a hf
  have hst := st_self Tryz.prog W1
  obtain ⟨hh1, hA, hn1, hnA⟩ := id hK
  refine chain_sound (G := ⟨Tryz.prog, W1, []⟩) tab_ok 1 _ _ [] _ _ (K := fun env hs => Done (Sub [(0, .func (.yield y) #[] #[]), (6, .slice A l.length ck), (7, .int .i64 l.length), (8, .int .i64 0)] env)) (X := fun _ _ _ => False) (R := fun _ _ => False) ?_ ?_ (fun _ _ _ _ _ h => h.elim) (fun _ _ _ _ h => h.elim) hf hst
  · repeat' ((try (conv => whnf)); (first | refine Pick.mk _ (cell_known hh1 (by simp) rfl) ?_ | refine Need.au ?_ | (refine Split.mk (fun hsplit => ?_) (fun hsplit => ?_) <;> (try simp only [List.cons.injEq, and_true, true_and, not_true_eq_false, not_false_eq_true] at hsplit) <;> try (exfalso; omega)) | refine Pick.au ?_ | refine store_au ?_ | refine Any.mk (fun _ => ?_) | refine Both.mk ?_ ?_)); all_goals (try (conv => whnf))
    exact Done.mk (Sub.cons rfl (Sub.cons rfl (Sub.cons rfl (Sub.cons rfl Sub.nil))))
  intro env hs a w hk hf hw
  replace hf := hf.sub hk.out
  have hJ0 := hJ _ _ _ h0 (hw.sub (List.nil_sublist _))
  have hK0 := hK.kept (Kept.of hw).none
  refine wpIn_block (wpIn_loop_ghost' (fun n a w => ∃ (i : Nat) (x : Int), x = (i : Int) ∧ i + n = l.length ∧ J (8 * i) w ∧ KC fp b1 A l ck w ∧
    Fits [] 25 [(0, .func (.yield y) #[] #[]), (6, .slice A l.length ck), (7, .int .i64 l.length), (8, .int .i64 x)] a) l.length ⟨0, 0, rfl, by omega, hJ0, hK0, hf⟩ ?_)
  clear hf hw hk hst hK0 hJ0 hh1 hA
  rintro n a w ⟨i, _, rfl, hi, hJi, hKi, hf⟩
  have hst := st_self Tryz.prog w
  refine chain_sound (G := ⟨Tryz.prog, w, []⟩) tab_ok 2 _ _ [] _ _ (K := fun env hs => Done (i < l.length ∧ Sub [(0, .func (.yield y) #[] #[]), (6, .slice A l.length ck), (7, .int .i64 l.length), (8, .int .i64 i)] env)) (X := fun id _ _ => Done (id = 0 ∧ i = l.length)) (R := fun _ _ => False) ?_ ?_ ?_ (fun _ _ _ _ h => h.elim) hf hst
  · repeat' ((try (conv => whnf)); (first | refine Need.au ?_ | (refine Split.mk (fun hsplit => ?_) (fun hsplit => ?_) <;> (try simp only [List.cons.injEq, and_true, true_and, not_true_eq_false, not_false_eq_true] at hsplit) <;> try (exfalso; omega)) | refine Pick.au ?_ | refine store_au ?_ | refine Any.mk (fun _ => ?_) | refine Both.mk ?_ ?_)); all_goals (try (conv => whnf))
    · exact Done.mk ⟨by omega, Sub.cons rfl (Sub.cons rfl (Sub.cons rfl (Sub.cons rfl Sub.nil)))⟩
    · exact Done.mk ⟨rfl, by omega⟩
  rotate_left
  · rintro id env hs a w' ⟨rfl, rfl⟩ hf' hw'
    exact ⟨.inl rfl, hf'.defers, .inl (hJ _ _ _ hJi (hw'.sub (List.nil_sublist _)))⟩
  clear hf hst
  intro env hs a w1 hk hf hw
  obtain ⟨hi2, hsub⟩ := hk.out
  replace hf := hf.sub hsub
  replace hJi := hJ _ _ _ hJi (hw.sub (List.nil_sublist _))
  replace hKi := hKi.kept (Kept.of hw).none
  clear hk hsub hw
  obtain ⟨hh1, hA, hn1, hnA⟩ := id hKi
  obtain ⟨ba, rfl⟩ := hA.is (by rw [List.length_map]; omega)
  obtain ⟨c, hc⟩ : ∃ c, c = l.getD i 0 := ⟨_, rfl⟩
  have hst := st_self Tryz.prog w1
  refine wpIn_seq (wpIn_block ?_)
  refine chain_sound (G := ⟨Tryz.prog, w1, []⟩) tab_ok 2 _ _ [] _ _ (K := fun env hs => Done (Sub [(0, .func (.yield y) #[] #[]), (4, b8 c), (5, .int .i64 7), (6, .slice (some ba) l.length ck), (7, .int .i64 l.length), (8, .int .i64 i)] env)) (X := fun _ _ _ => False) (R := fun _ _ => False) ?_ ?_ (fun _ _ _ _ _ h => h.elim) (fun _ _ _ _ h => h.elim) hf hst
  · repeat' ((try (conv => whnf)); (first | refine Pick.mk _ (cell_arg hA (by simp) hi2) ?_ | refine Need.au ?_ | (refine Split.mk (fun hsplit => ?_) (fun hsplit => ?_) <;> (try simp only [List.cons.injEq, and_true, true_and, not_true_eq_false, not_false_eq_true] at hsplit) <;> try (exfalso; omega)) | refine Pick.au ?_ | refine store_au ?_ | refine Any.mk (fun _ => ?_) | refine Both.mk ?_ ?_)); all_goals (try (conv => whnf))
    rw [show ((i : Nat) : Int).toNat = i from Int.toNat_natCast i, ← hc]
    exact Done.mk (Sub.cons rfl (Sub.cons rfl (Sub.cons rfl (Sub.cons rfl (Sub.cons rfl (Sub.cons rfl Sub.nil))))))
  clear hf hst
  intro env hs a w2 hk hf hw
  replace hf := hf.sub hk.out
  replace hJi := hJ _ _ _ hJi (hw.sub (List.nil_sublist _))
  replace hKi := hKi.kept (Kept.of hw).none
  clear hk hw hh1 hA
  refine wpIn_block (wpIn_loop_ghost' (fun n a w => ∃ (j : Nat) (x : Int), x = 7 - (j : Int) ∧ j + n = 8 ∧ J (8 * i + j) w ∧ KC fp b1 (some ba) l ck w ∧
    Fits [] 25 [(0, .func (.yield y) #[] #[]), (4, b8 c), (5, .int .i64 x), (6, .slice (some ba) l.length ck), (7, .int .i64 l.length), (8, .int .i64 i)] a) 8 ⟨0, 7, rfl, rfl, hJi, hKi, hf⟩ ?_)
  clear hf hJi hKi
  rintro n2 a w ⟨j, x, hx, hj, hJj, hKi, hf⟩
  have hst := st_self Tryz.prog w
  refine chain_sound (G := ⟨Tryz.prog, w, []⟩) tab_ok 1 _ _ [] _ _ (K := fun env hs => Done (j < 8 ∧ Sub [(0, .func (.yield y) #[] #[]), (4, b8 c), (5, .int .i64 x), (6, .slice (some ba) l.length ck), (7, .int .i64 l.length), (8, .int .i64 i)] env))
    (X := fun id env _ => Done (id = 2 ∧ j = 8 ∧ Sub [(0, .func (.yield y) #[] #[]), (6, .slice (some ba) l.length ck), (7, .int .i64 l.length), (8, .int .i64 i)] env)) (R := fun _ _ => False) ?_ ?_ ?_ (fun _ _ _ _ h => h.elim) hf hst
  · repeat' ((try (conv => whnf)); (first | refine Need.au ?_ | (refine Split.mk (fun hsplit => ?_) (fun hsplit => ?_) <;> (try simp only [List.cons.injEq, and_true, true_and, not_true_eq_false, not_false_eq_true] at hsplit) <;> try (exfalso; omega)) | refine Pick.au ?_ | refine store_au ?_ | refine Any.mk (fun _ => ?_) | refine Both.mk ?_ ?_)); all_goals (try (conv => whnf))
    · exact Done.mk ⟨by omega, Sub.cons rfl (Sub.cons rfl (Sub.cons rfl (Sub.cons rfl (Sub.cons rfl (Sub.cons rfl Sub.nil)))))⟩
    · exact Done.mk ⟨rfl, by omega, Sub.cons rfl (Sub.cons rfl (Sub.cons rfl (Sub.cons rfl Sub.nil)))⟩
  rotate_left
  · rintro id env hs a w3 hk hf hw
    obtain ⟨rfl, rfl, hsub⟩ := hk.out
    replace hf := hf.sub hsub
    replace hJj := hJ _ _ _ hJj (hw.sub (List.nil_sublist _))
    replace hKi := hKi.kept (Kept.of hw).none
    clear hk hsub hw hst
    dsimp only [Exit.inBlock, Exit.then]
    rw [if_pos rfl]
    have hst := st_self Tryz.prog w3
    refine codeVC_sound (G := ⟨Tryz.prog, w3, []⟩) (ds := []) tab_ok _ _ [] (fun env hs => Done (Sub [(0, .func (.yield y) #[] #[]), (6, .slice (some ba) l.length ck), (7, .int .i64 l.length), (8, .int .i64 ((i : Int) + 1))] env)) (fun _ _ _ => False) (fun _ _ => False) _ _ _ ?_ ⟨?_, fun _ _ _ _ _ h => h.elim, fun _ _ _ _ h => h.elim⟩ hf hst
    · repeat' ((try (conv => whnf)); (first | refine Need.au ?_ | (refine Split.mk (fun hsplit => ?_) (fun hsplit => ?_) <;> (try simp only [List.cons.injEq, and_true, true_and, not_true_eq_false, not_false_eq_true] at hsplit) <;> try (exfalso; omega)) | refine Pick.au ?_ | refine store_au ?_ | refine Any.mk (fun _ => ?_) | refine Both.mk ?_ ?_)); all_goals (try (conv => whnf))
      exact Done.mk (Sub.cons rfl (Sub.cons rfl (Sub.cons rfl (Sub.cons rfl Sub.nil))))
    intro env hs a w5 hk hf hw
    exact ⟨n - 1, by omega, i + 1, _, by omega, by omega, hJ _ _ _ hJj (hw.sub (List.nil_sublist _)), hKi.kept (Kept.of hw).none, hf.sub hk.out⟩
  clear hf hst
  intro env hs a w1 hk hf hw
  obtain ⟨hj2, hsub⟩ := hk.out
  replace hf := hf.sub hsub
  replace hJj := hJ _ _ _ hJj (hw.sub (List.nil_sublist _))
  replace hKi := hKi.kept (Kept.of hw).none
  clear hk hsub hw
  have hst := st_self Tryz.prog w1
  have hxn : x.toNat = 7 - j := by omega
  have hval := bytesBits_get l i j hi2 hj2
  rw [← hc] at hval
  have hn8 : 8 * i + j < 8 * l.length := by omega
  refine wpIn_seq (wpIn_block (wpIn_seq (region_yield (G := ⟨Tryz.prog, w1, []⟩) tab_ok [_, _, _, _, _, _] _ [_] _ (.tmp 16) [(0, .func (.yield y) #[] #[]), (4, b8 c), (5, .int .i64 x), (6, .slice (some ba) l.length ck), (7, .int .i64 l.length), (8, .int .i64 i), (16, .func (.yield y) #[] #[]), (21, w32 (if c.getLsbD (7 - j) then 1#32 else 0#32))]
    [] y #[w32 (if c.getLsbD (7 - j) then 1#32 else 0#32)] (fun w1 e B => (e = .returned (.bool true) ∧ J (8 * i + j + 1) B ∧ Kept fp w1 B) ∨ (e = .returned (.bool false) ∧ Jx (8 * i + j + 1) B)) rfl rfl rfl rfl ?_ hf hst rfl
    (fun ρ h => by have e := h (.tmp 21) _ rfl; simp [e]) (fun w3 h3 => hy (8 * i + j) w3 _ hn8 (hJ _ _ _ hJj (h3.sub (List.nil_sublist _))) (by rw [bitEl, hval])) ?_)))
  · repeat' ((try (conv => whnf)); (first | refine Pick.mk _ (conv_u8_32 c) ?_ | refine Pick.mk _ (shr_u32 (c.setWidth 32) _ (by omega) (by omega)) ?_ | refine Pick.mk _ (and_u32 _ 1#32) ?_ | refine Need.au ?_ | (refine Split.mk (fun hsplit => ?_) (fun hsplit => ?_) <;> (try simp only [List.cons.injEq, and_true, true_and, not_true_eq_false, not_false_eq_true] at hsplit) <;> try (exfalso; omega)) | refine Pick.au ?_ | refine store_au ?_ | refine Any.mk (fun _ => ?_) | refine Both.mk ?_ ?_)); all_goals (try (conv => whnf))
    rw [hxn, bit_u32]
    exact Done.mk ⟨Sub.cons rfl (Sub.cons rfl (Sub.cons rfl (Sub.cons rfl (Sub.cons rfl (Sub.cons rfl (Sub.cons rfl (Sub.cons rfl Sub.nil))))))), List.Sublist.refl _⟩
  clear hf hst
  rintro w3 e B h3 (⟨rfl, hJ1, hk1⟩ | ⟨rfl, hx2⟩)
  · refine ⟨_, rfl, fun env' _ => Done (Sub [(0, .func (.yield y) #[] #[]), (4, b8 c), (5, .int .i64 x), (6, .slice (some ba) l.length ck), (7, .int .i64 l.length), (8, .int .i64 i), (23, .bool false)] env'), ?_, ?_⟩
    · repeat' ((try (conv => whnf)); (first | refine Need.au ?_ | (refine Split.mk (fun hsplit => ?_) (fun hsplit => ?_) <;> (try simp only [List.cons.injEq, and_true, true_and, not_true_eq_false, not_false_eq_true] at hsplit) <;> try (exfalso; omega)) | refine Pick.au ?_ | refine store_au ?_ | refine Any.mk (fun _ => ?_) | refine Both.mk ?_ ?_)); all_goals (try (conv => whnf))
      exact Done.mk (Sub.cons rfl (Sub.cons rfl (Sub.cons rfl (Sub.cons rfl (Sub.cons rfl (Sub.cons rfl (Sub.cons rfl Sub.nil)))))))
    intro env hs a w4 hk hf hw
    replace hf := hf.sub hk.out
    have hkw : Kept [] B w4 := Kept.of hw
    refine wpIn_cond (t := false) (hf.agrees _ _ rfl) (wpIn_skip ?_)
    have hK2 := ((hKi.kept (Kept.of h3).none).kept hk1).kept hkw.none
    have hJ2 := hJ _ _ _ hJ1 (hw.sub (List.nil_sublist _))
    have hst := st_self Tryz.prog w4
    refine codeVC_sound (G := ⟨Tryz.prog, w4, []⟩) (ds := []) tab_ok _ _ [] (fun env hs => Done (Sub [(0, .func (.yield y) #[] #[]), (4, b8 c), (5, .int .i64 (x - 1)), (6, .slice (some ba) l.length ck), (7, .int .i64 l.length), (8, .int .i64 i)] env)) (fun _ _ _ => False) (fun _ _ => False) _ _ _ ?_ ⟨?_, fun _ _ _ _ _ h => h.elim, fun _ _ _ _ h => h.elim⟩ hf hst
    · repeat' ((try (conv => whnf)); (first | refine Need.au ?_ | (refine Split.mk (fun hsplit => ?_) (fun hsplit => ?_) <;> (try simp only [List.cons.injEq, and_true, true_and, not_true_eq_false, not_false_eq_true] at hsplit) <;> try (exfalso; omega)) | refine Pick.au ?_ | refine store_au ?_ | refine Any.mk (fun _ => ?_) | refine Both.mk ?_ ?_)); all_goals (try (conv => whnf))
      exact Done.mk (Sub.cons rfl (Sub.cons rfl (Sub.cons rfl (Sub.cons rfl (Sub.cons rfl (Sub.cons rfl Sub.nil))))))
    intro env hs a w5 hk hf hw
    exact ⟨n2 - 1, by omega, j + 1, _, by omega, by omega, hJ _ _ _ hJ2 (hw.sub (List.nil_sublist _)), hK2.kept (Kept.of hw).none, hf.sub hk.out⟩
  · refine ⟨_, rfl, fun env' _ => Done (Sub [(23, .bool true)] env'), ?_, ?_⟩
    · repeat' ((try (conv => whnf)); (first | refine Need.au ?_ | (refine Split.mk (fun hsplit => ?_) (fun hsplit => ?_) <;> (try simp only [List.cons.injEq, and_true, true_and, not_true_eq_false, not_false_eq_true] at hsplit) <;> try (exfalso; omega)) | refine Pick.au ?_ | refine store_au ?_ | refine Any.mk (fun _ => ?_) | refine Both.mk ?_ ?_)); all_goals (try (conv => whnf))
      exact Done.mk (Sub.cons rfl Sub.nil)
    intro env hs a w4 hk hf hw
    replace hf := hf.sub hk.out
    exact wpIn_cond (t := true) (hf.agrees _ _ rfl) (wpIn_ret ⟨.inr rfl, hf.defers, .inr ⟨_, hJx _ _ _ hx2 (hw.sub (List.nil_sublist _))⟩⟩)
end Go.Proofs.YtnlheljpagpiiaaGreat
