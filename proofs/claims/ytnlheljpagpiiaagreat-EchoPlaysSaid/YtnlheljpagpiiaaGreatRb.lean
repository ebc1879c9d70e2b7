/-
  The program's sum of bits and the document's; every input.
-/
import Derived.Test.YtnlheljpagpiiaaGreatRa
import Derived.Test.YtnlheljpagpiiaaGreatMk
set_option linter.unusedVariables false
set_option linter.unusedSimpArgs false
set_option maxRecDepth 100000
set_option maxHeartbeats 8000000
namespace Go.Proofs.YtnlheljpagpiiaaGreat
open Go
attribute [local irreducible] bitsOf shlOf shrOf
theorem Val.ofRet {P : Program} {f : Nat} {args : List Value} {w : World} {v : Value} (h : Ret P f args w fun u _ => u = v) : Val P f args w v := by
  refine ⟨h.calls.mono ?_⟩
  rintro e w' ⟨u, hs, rfl, rfl, hst⟩
  exact ⟨_, [], rfl, ⟨rfl, rfl⟩, hst.sub (List.nil_sublist _)⟩
theorem below_v (n : Int) (h : n = 24) (w : World) : Val Tryz.prog 153 [.int .i64 n] w (.int .u64 16777215) := by
  subst h
  refine val_vc tab_ok Tryz.func153 rfl rfl ?_
  repeat' ((try (conv => whnf)); (first | refine Pick.mk _ (shl_u64 1#64 _ (by omega) (by omega)) ?_ | refine Pick.mk (16777215 : Int) (by decide +kernel) ?_ | refine Need.au ?_ | (refine Split.mk (fun hsplit => ?_) (fun hsplit => ?_) <;> (try simp only [List.cons.injEq, and_true, true_and, not_true_eq_false, not_false_eq_true] at hsplit) <;> try (exfalso; omega)) | refine Pick.au ?_ | refine store_au ?_ | refine Any.mk (fun _ => ?_) | refine Both.mk ?_ ?_)); all_goals (try (conv => whnf))
  all_goals exact Done.mk rfl
/-- The polynomial of whole frames. -/
abbrev polyV : Value := .agg #[.int .i64 24, .int .u32 6122955, .int .u32 16702650]
theorem whole_v (w : World) : Val Tryz.prog 130 [] w polyV := by
  refine val_vc tab_ok Tryz.func130 rfl rfl ?_
  repeat' ((try (conv => whnf)); (first | refine Need.au ?_ | (refine Split.mk (fun hsplit => ?_) (fun hsplit => ?_) <;> (try simp only [List.cons.injEq, and_true, true_and, not_true_eq_false, not_false_eq_true] at hsplit) <;> try (exfalso; omega)) | refine Pick.au ?_ | refine store_au ?_ | refine Any.mk (fun _ => ?_) | refine Both.mk ?_ ?_)); all_goals (try (conv => whnf))
  all_goals exact Done.mk rfl
theorem eq_one (x : BitVec 32) : ((x.toNat : Nat) : Int) = 1 ↔ x = 1#32 := by
  constructor
  · intro h
    apply BitVec.eq_of_toNat_eq
    have : (1#32 : BitVec 32).toNat = 1 := rfl
    omega
  · rintro rfl
    rfl
theorem sum_v (A : Option Addr) (l : List B8) (ck : Nat) (hlk : l.length ≤ 1125899906842624) (w : World) (hA : At w A (l.map b8)) : Val Tryz.prog 131 [polyV, .slice A l.length ck] w (w32 (crcSum l)) := by
  refine Val.ofRet (ret_marks Tryz.func131 rfl rfl ?_)
  intro a hf hw
  refine chain_sound tab_ok 1 _ _ [] _ _ (K := fun env hs => Done (∃ b2, Sub [(0, polyV), (1, .slice A l.length ck), (2, .pointer (some ⟨b2, 0, none⟩))] env ∧ List.Sublist [⟨b2, [.int .i64 24, .int .u32 6122955, .int .u32 16702650], 189, (0, 0)⟩] hs)) (X := fun _ _ _ => False) (R := fun _ _ => False) ?_ ?_ (fun _ _ _ _ _ h => h.elim) (fun _ _ _ _ h => h.elim) hf hw
  · repeat' ((try (conv => whnf)); (first | refine Pick.mk pl131_1 (by decide +kernel) ?_ | refine Need.au ?_ | (refine Split.mk (fun hsplit => ?_) (fun hsplit => ?_) <;> (try simp only [List.cons.injEq, and_true, true_and, not_true_eq_false, not_false_eq_true] at hsplit) <;> try (exfalso; omega)) | refine Pick.au ?_ | refine store_au ?_ | refine Any.mk (fun _ => ?_) | refine Both.mk ?_ ?_)); all_goals (try (conv => whnf))
    exact Done.mk ⟨_, Sub.cons rfl (Sub.cons rfl (Sub.cons rfl Sub.nil)), List.Sublist.refl _⟩
  clear hf hw
  intro env hs a w1 hk hf hw1
  obtain ⟨b2, hsub, hsl⟩ := hk.out
  replace hf := hf.sub hsub
  replace hw1 := hw1.sub hsl
  clear hk hsub hsl
  refine wpIn_seq (draw_sound2 tab_ok (p := pl131_1) (K := fun env hs => Done (∃ (b5 b6 : Nat) (H : Hp), Sub [(1, .slice A l.length ck), (2, .pointer (some ⟨b2, 0, none⟩)), (5, .pointer (some ⟨b5, 0, none⟩)), (6, .pointer (some ⟨b6, 0, none⟩))] env ∧
    H.Sublist hs ∧ H.Perm [⟨b5, [.int .u32 16702650], 151, (0, 0)⟩, ⟨b6, [.int .u32 16777215], 151, (0, 0)⟩, ⟨b2, [.int .i64 24, .int .u32 6122955, .int .u32 16702650], 189, (0, 0)⟩])) ?_ (by decide +kernel) (by decide +kernel) ?_ hf hw1)
  rotate_left
  · repeat' ((try (conv => whnf)); (first | refine QuietVC.val (fun w2 h2 => below_v 24 rfl w2) ?_ | refine Need.mk (by repeat (first | exact List.Sublist.refl _ | exact List.nil_sublist _ | refine List.Sublist.cons_cons _ ?_ | refine List.Sublist.cons _ ?_)) ?_ | refine Pick.mk pl131_1 (by decide +kernel) ?_ | refine Need.au ?_ | (refine Split.mk (fun hsplit => ?_) (fun hsplit => ?_) <;> (try simp only [List.cons.injEq, and_true, true_and, not_true_eq_false, not_false_eq_true] at hsplit) <;> try (exfalso; omega)) | refine Pick.au ?_ | refine store_au ?_ | refine Any.mk (fun _ => ?_) | refine Both.mk ?_ ?_)); all_goals (try (conv => whnf))
    · rename_i y5 y6
      exact Done.mk ⟨y5, y6, _, Sub.cons rfl (Sub.cons rfl (Sub.cons rfl (Sub.cons rfl Sub.nil))), List.Sublist.refl _, List.Perm.swap _ _ _⟩
    · rename_i y6 y5
      exact Done.mk ⟨y5, y6, _, Sub.cons rfl (Sub.cons rfl (Sub.cons rfl (Sub.cons rfl Sub.nil))), List.Sublist.refl _, List.Perm.refl _⟩
  clear hf hw1
  intro env hs a w2 hk hf hw2
  obtain ⟨b5, b6, H, hsub, hsl, hp⟩ := hk.out
  replace hf := hf.sub hsub
  replace hw2 := (hw2.sub hsl).perm hp
  clear hk hsub hsl hp H
  refine wpIn_seq ?_
  refine chain_sound tab_ok 1 _ _ _ _ _ (K := fun env hs => Done (∃ b1, Sub [(2, .pointer (some ⟨b2, 0, none⟩)), (5, .pointer (some ⟨b5, 0, none⟩)), (6, .pointer (some ⟨b6, 0, none⟩)), (16, .func (.func 170) #[] #[.pointer (some ⟨b1, 0, none⟩)])] env ∧
    List.Sublist ([⟨b1, [.slice A l.length ck], 23, (0, 0)⟩] ++ [⟨b5, [.int .u32 16702650], 151, (0, 0)⟩, ⟨b6, [.int .u32 16777215], 151, (0, 0)⟩, ⟨b2, [.int .i64 24, .int .u32 6122955, .int .u32 16702650], 189, (0, 0)⟩]) hs)) (X := fun _ _ _ => False) (R := fun _ _ => False) ?_ ?_ (fun _ _ _ _ _ h => h.elim) (fun _ _ _ _ h => h.elim) hf hw2
  · repeat' ((try (conv => whnf)); (first | refine CallVC.of (fun w2 h2 => bits_r A l.length ck w2) ?_ | rintro _ _ ⟨b1, rfl, rfl⟩ | refine Pick.mk pl131_1 (by decide +kernel) ?_ | refine Need.au ?_ | (refine Split.mk (fun hsplit => ?_) (fun hsplit => ?_) <;> (try simp only [List.cons.injEq, and_true, true_and, not_true_eq_false, not_false_eq_true] at hsplit) <;> try (exfalso; omega)) | refine Pick.au ?_ | refine store_au ?_ | refine Any.mk (fun _ => ?_) | refine Both.mk ?_ ?_)); all_goals (try (conv => whnf))
    exact Done.mk ⟨b1, Sub.cons rfl (Sub.cons rfl (Sub.cons rfl (Sub.cons rfl Sub.nil))), List.Sublist.refl _⟩
  clear hf hw2
  intro env hs a w2 hk hf hw2
  obtain ⟨b1, hsub, hsl⟩ := hk.out
  replace hf := hf.sub hsub
  have hAk : At w2 A (l.map b8) := hA.kept (Kept.of hw2) (by simp)
  have nofp : l.map b8 ≠ [] → ∀ c, A = some c → c.block ∉ [b5, b6, b2] := by
    intro hx c hc hm
    subst hc
    have hlt := hA.lt hx
    have := (hw2.sub hsl).new
    obtain ⟨e, he, hb⟩ : ∃ e ∈ ([⟨b5, [.int .u32 16702650], 151, (0, 0)⟩, ⟨b6, [.int .u32 16777215], 151, (0, 0)⟩, ⟨b2, [.int .i64 24, .int .u32 6122955, .int .u32 16702650], 189, (0, 0)⟩] : Hp), e.b = c.block := List.mem_map.1 hm
    have := (this e (List.mem_append_right _ he)).resolve_right (by simp)
    simp only at this
    omega
  have hn1 : b1 ∉ [b5, b6, b2] := by
    have := (hw2.sub hsl).nodup
    rw [List.map_append] at this
    exact fun hm => (List.nodup_append.1 this).2.2 _ (List.Mem.head _) _ hm rfl
  have hKC : KC [b5, b6, b2] b1 A l ck w2 := ⟨at_in (List.Mem.head _) (hw2.sub hsl), hAk, hn1, nofp⟩
  have hw3 := (hw2.sub hsl).sub (List.sublist_append_right _ _)
  clear hk hsub hsl nofp hn1 hAk hw2
  have hbl := bytesBits_len l
  refine wpIn_block (rangeFunc_vc tab_ok hf hw3 rfl ?_ (fp := [b5, b6, b2]) (lim := True) (N := 8 * l.length) (El := bitEl l)
    (fun i hs _ => hs = [⟨b5, [w32 (crcOf ((bytesBits l).take i))], 151, (0, 0)⟩, ⟨b6, [.int .u32 16777215], 151, (0, 0)⟩, ⟨b2, [.int .i64 24, .int .u32 6122955, .int .u32 16702650], 189, (0, 0)⟩])
    (fun _ _ _ => False)
    (fun h => absurd trivial h) (fun _ _ _ _ h _ => h) (fun _ _ _ _ h _ => h) ?_ ?_ ?_ ?_ ?_ ?_ (fun vs => [(2, .pointer (some ⟨b2, 0, none⟩)), (5, .pointer (some ⟨b5, 0, none⟩)), (6, .pointer (some ⟨b6, 0, none⟩)), (7, vs.getD 0 undef)]) ?_ ?_ ?_ (fun _ _ _ _ _ h => h.elim))
  · exact fun args w => callFunc_run (tab_ok.fns _ (by rfl))
  · rintro i hs A rfl b hm
    exact hm
  · exact fun i A C vs h _ => h
  · rintro i A vs rfl
    rfl
  · intro p hp
    obtain rfl : p = 17 := by simpa using hp
    decide
  · rw [List.take_zero]; rfl
  · intro W1 hk hst hsz
    exact bits_iter [b5, b6, b2] b1 A l ck hlk W1 (hKC.kept hk.none)
  · rintro i A vs rfl
    repeat' ((try (conv => whnf)); (first | refine Pick.mk pl131_1 (by decide +kernel) ?_ | refine Need.au ?_ | (refine Split.mk (fun hsplit => ?_) (fun hsplit => ?_) <;> (try simp only [List.cons.injEq, and_true, true_and, not_true_eq_false, not_false_eq_true] at hsplit) <;> try (exfalso; omega)) | refine Pick.au ?_ | refine store_au ?_ | refine Any.mk (fun _ => ?_) | refine Both.mk ?_ ?_)); all_goals (try (conv => whnf))
    exact Done.mk (Sub.cons rfl (Sub.cons rfl (Sub.cons rfl (Sub.cons rfl Sub.nil))))
  · rintro i A2 vs hs hi rfl hst rfl
    have hnx := crcOf_next (bs := bytesBits l) (i := i) (by omega)
    generalize crcOf ((bytesBits l).take i) = s at *
    generalize (bytesBits l).getD i false = b at *
    repeat' ((try (conv => whnf)); (first | refine Pick.mk _ (shr_u32 s _ (by omega) (by omega)) ?_ | refine Pick.mk _ (and_u32 _ 1#32) ?_ | refine Pick.mk _ (xor_u32 _ (if b then 1#32 else 0#32)) ?_ | refine Pick.mk _ (shl_u32 s 1 (by omega) (by omega)) ?_ | refine Pick.mk _ (and_u32 _ 0xFFFFFF#32) ?_ | refine Pick.mk _ (xor_u32 _ 0x5D6DCB#32) ?_ | refine Pick.mk pl131_1 (by decide +kernel) ?_ | refine Need.au ?_ | (refine Split.mk (fun hsplit => ?_) (fun hsplit => ?_) <;> (try simp only [List.cons.injEq, and_true, true_and, not_true_eq_false, not_false_eq_true] at hsplit) <;> try (exfalso; omega)) | refine Pick.au ?_ | refine store_au ?_ | refine Any.mk (fun _ => ?_) | refine Both.mk ?_ ?_)); all_goals (try (conv => whnf))
    · have e : crcStep s b = (s <<< Int.toNat 1 &&& 16777215#32 ^^^ 6122955#32) := by
        have h1 : ((s >>> 23) &&& 1#32) ^^^ (if b then 1#32 else 0#32) = 1#32 := (eq_one _).1 hsplit
        unfold crcStep
        rw [if_pos h1]
        rfl
      rw [hnx, e]
      exact Done.mk fun _ _ => rfl
    · have e : crcStep s b = (s <<< Int.toNat 1 &&& 16777215#32) := by
        have h1 : ¬ ((s >>> 23) &&& 1#32) ^^^ (if b then 1#32 else 0#32) = 1#32 := fun h => hsplit ((eq_one _).2 h)
        unfold crcStep
        rw [if_neg h1]
        rfl
      rw [hnx, e]
      exact Done.mk fun _ _ => rfl
  · rintro D W hs a' rfl hst hD hn2 hf'
    dsimp only [Exit.inBlock, Exit.then]
    refine behind_vc tab_ok rfl hf' hst hD hn2 ?_
    rw [List.take_of_length_le (by omega)]
    repeat' ((try (conv => whnf)); (first | refine Pick.mk pl131_1 (by decide +kernel) ?_ | refine Need.au ?_ | (refine Split.mk (fun hsplit => ?_) (fun hsplit => ?_) <;> (try simp only [List.cons.injEq, and_true, true_and, not_true_eq_false, not_false_eq_true] at hsplit) <;> try (exfalso; omega)) | refine Pick.au ?_ | refine store_au ?_ | refine Any.mk (fun _ => ?_) | refine Both.mk ?_ ?_)); all_goals (try (conv => whnf))
    exact Done.mk rfl
theorem csum_v (A : Option Addr) (l : List B8) (ck : Nat) (hlk : l.length ≤ 1125899906842624) (w : World) (hA : At w A (l.map b8)) : Val Tryz.prog 94 [.slice A l.length ck] w (w32 (crcSum l)) := by
  refine val_vc tab_ok Tryz.func94 rfl rfl ?_
  repeat' ((try (conv => whnf)); (first | refine CallVC.val (fun w2 h2 => whole_v w2) ?_ | refine CallVC.val (fun w2 h2 => sum_v A l ck hlk w2 (hA.here h2 (fun _ _ => by simp))) ?_ | refine Need.au ?_ | (refine Split.mk (fun hsplit => ?_) (fun hsplit => ?_) <;> (try simp only [List.cons.injEq, and_true, true_and, not_true_eq_false, not_false_eq_true] at hsplit) <;> try (exfalso; omega)) | refine Pick.au ?_ | refine store_au ?_ | refine Any.mk (fun _ => ?_) | refine Both.mk ?_ ?_)); all_goals (try (conv => whnf))
  all_goals exact Done.mk rfl
theorem sw_shr (s : BitVec 32) (k : Nat) : (s.setWidth 64) >>> k = (s >>> k).setWidth 64 := by
  apply BitVec.eq_of_getLsbD_eq
  intro i hi
  rw [BitVec.getLsbD_ushiftRight, BitVec.getLsbD_setWidth, BitVec.getLsbD_setWidth, BitVec.getLsbD_ushiftRight]
  by_cases h : k + i < 64
  · simp [h, hi]
  · rw [BitVec.getLsbD_of_ge s (k + i) (by omega)]; simp
theorem mask64 (i : Nat) (h : i < 64) : (0xFFFFFF#64).getLsbD i = decide (i < 24) := by
  rw [BitVec.getLsbD_ofNat, show (0xFFFFFF : Nat) = 2 ^ 24 - 1 from rfl, Nat.testBit_two_pow_sub_one]; simp [h]
theorem mask32 (i : Nat) : (0xFFFFFF#32).getLsbD i = decide (i < 24) := by
  rw [BitVec.getLsbD_ofNat, show (0xFFFFFF : Nat) = 2 ^ 24 - 1 from rfl, Nat.testBit_two_pow_sub_one]; simp; omega
theorem sw_shl (s : BitVec 32) : ((s.setWidth 64) <<< 1) &&& 0xFFFFFF#64 = ((s <<< 1) &&& 0xFFFFFF#32).setWidth 64 := by
  apply BitVec.eq_of_getLsbD_eq
  intro i hi
  rw [BitVec.getLsbD_and, mask64 i hi, BitVec.getLsbD_shiftLeft, BitVec.getLsbD_setWidth, BitVec.getLsbD_setWidth, BitVec.getLsbD_and, mask32, BitVec.getLsbD_shiftLeft]
  by_cases h : i < 24
  · simp [h, hi, show i < 32 by omega, show i - 1 < 64 by omega]
  · simp [h]
theorem bit_u64 (c : B8) (k : Nat) : (((c >>> k).setWidth 64) &&& 1#64) = if c.getLsbD k then 1#64 else 0#64 := by
  apply BitVec.eq_of_getLsbD_eq
  intro i hi
  rw [BitVec.getLsbD_and, BitVec.getLsbD_setWidth, BitVec.getLsbD_ushiftRight]
  cases i with
  | zero =>
    rw [Nat.add_zero]
    cases h : c.getLsbD k <;> simp
  | succ i =>
    have e1 : (1#64 : BitVec 64).getLsbD (i + 1) = false := by simp [BitVec.getLsbD_one]
    rw [e1, Bool.and_false]
    cases c.getLsbD k <;> simp [BitVec.getLsbD_one]
theorem conv_u64_32 (s : BitVec 32) : ((s.toNat : Nat) : Int) = IntKind.u32.wrap ((s.setWidth 64).toNat : Int) := by
  have h := s.isLt
  rw [BitVec.toNat_setWidth]
  simp [IntKind.wrap, IntKind.signed, IntKind.bits]
  omega
theorem step64 (s : BitVec 32) (b : Bool) : ((((s.setWidth 64) >>> 23) &&& 1#64) ^^^ (if b then 1#64 else 0#64) = 1#64 ↔ ((s >>> 23) &&& 1#32) ^^^ (if b then 1#32 else 0#32) = 1#32) := by
  have e : (((s.setWidth 64) >>> 23) &&& 1#64) ^^^ (if b then 1#64 else 0#64) = (((s >>> 23) &&& 1#32) ^^^ (if b then 1#32 else 0#32)).setWidth 64 := by
    rw [sw_shr, BitVec.setWidth_xor, BitVec.setWidth_and]
    cases b <;> rfl
  rw [e]
  generalize ((s >>> 23) &&& 1#32) ^^^ (if b then 1#32 else 0#32) = t
  constructor
  · intro h
    apply BitVec.eq_of_toNat_eq
    have := congrArg BitVec.toNat h
    have ht := t.isLt
    rw [BitVec.toNat_setWidth] at this
    simp at this ⊢
    omega
  · rintro rfl
    rfl
theorem eq_one64 (x : BitVec 64) : ((x.toNat : Nat) : Int) = 1 ↔ x = 1#64 := by
  constructor
  · intro h
    apply BitVec.eq_of_toNat_eq
    have : (1#64 : BitVec 64).toNat = 1 := rfl
    omega
  · rintro rfl
    rfl
theorem rof_v (A : Option Addr) (l : List B8) (ck : Nat) (hlk : l.length ≤ 1125899906842624) (w : World) (hA : At w A (l.map b8)) : Val Tryz.prog 151 [.slice A l.length ck, .int .i64 24, .int .u32 6122955, .int .u32 16702650] w (.tuple #[w32 (crcSum l), .int .i64 0]) := by
  refine val_vc tab_ok Tryz.func151 rfl rfl ?_
  have hbl := bytesBits_len l
  repeat' ((try (conv => whnf)); (first | refine Pick.mk (0 : Int) (by decide +kernel) ?_ | refine Need.au ?_ | (refine Split.mk (fun hsplit => ?_) (fun hsplit => ?_) <;> (try simp only [List.cons.injEq, and_true, true_and, not_true_eq_false, not_false_eq_true] at hsplit) <;> try (exfalso; omega)) | refine Pick.au ?_ | refine store_au ?_ | refine Any.mk (fun _ => ?_) | refine Both.mk ?_ ?_)); all_goals (try (conv => whnf))
  refine LoopVC.mk (fun m env hs => ∃ (i : Nat) (xi : Int), xi = i ∧ i + m = 8 * l.length ∧ env = [(0, .slice A l.length ck), (1, .int .i64 24), (2, .int .u32 6122955), (10, w64 ((crcOf ((bytesBits l).take i)).setWidth 64)), (11, .int .i64 xi)] ∧ hs = []) (8 * l.length)
    (Weak.mk (Sub.cons rfl (Sub.cons rfl (Sub.cons rfl (Sub.cons rfl (Sub.cons rfl Sub.nil))))) (List.Sublist.refl _) ⟨0, 0, by omega, by omega, rfl, rfl⟩) ?_
  rintro m env hs ⟨i, xi, hxi, hj, rfl, rfl⟩
  by_cases hib : i < 8 * l.length
  · obtain ⟨a, rfl⟩ := hA.is (by rw [List.length_map]; omega)
    have hx8 : (xi / 8).toNat = i / 8 := by omega
    have hx7 : (7 - xi % 8).toNat = 7 - i % 8 := by omega
    have hget := bytesBits_get l (i / 8) (i % 8) (by omega) (by omega)
    rw [Nat.div_add_mod i 8] at hget
    have hnx := crcOf_next (bs := bytesBits l) (i := i) (by omega)
    rw [hget] at hnx
    generalize crcOf ((bytesBits l).take i) = s at *
    repeat' ((try (conv => whnf)); (first | (rw [hx8]; refine Pick.mk _ (cell_arg hA (by simp) (by omega)) ?_) | (refine Pick.mk _ (shr_u8 (l.getD (i / 8) 0) _ (by omega) (by omega)) ?_) | refine Pick.mk _ (conv_u8_64 _) ?_ | refine Pick.mk _ (and_u64 ((l.getD (i / 8) 0 >>> (7 - xi % 8).toNat).setWidth 64) 1#64) ?_ | refine Pick.mk _ (shr_u64 (s.setWidth 64) _ (by omega) (by omega)) ?_ | refine Pick.mk _ (and_u64 (s.setWidth 64 >>> (24 - 1 : Int).toNat) 1#64) ?_ | refine Pick.mk _ (xor_u64 _ _) ?_ | refine Pick.mk _ (shl_u64 (s.setWidth 64) 1 (by omega) (by omega)) ?_ | refine Pick.mk _ (shl_u64 1#64 _ (by omega) (by omega)) ?_ | refine Pick.mk (16777215 : Int) (by decide +kernel) ?_ | refine Pick.mk _ (and_u64 _ 0xFFFFFF#64) ?_ | refine Pick.mk _ (xor_u64 _ 6122955#64) ?_ | refine Need.au ?_ | (refine Split.mk (fun hsplit => ?_) (fun hsplit => ?_) <;> (try simp only [List.cons.injEq, and_true, true_and, not_true_eq_false, not_false_eq_true] at hsplit) <;> try (exfalso; omega)) | refine Pick.au ?_ | refine store_au ?_ | refine Any.mk (fun _ => ?_) | refine Both.mk ?_ ?_)); all_goals (try (conv => whnf))
    all_goals
      have h0 : (s.setWidth 64 >>> 23 &&& 1#64) ^^^ ((l.getD (i / 8) 0 >>> (7 - xi % 8).toNat).setWidth 64 &&& 1#64) = (s.setWidth 64 >>> 23 &&& 1#64) ^^^ (if (l.getD (i / 8) 0).getLsbD (7 - i % 8) then 1#64 else 0#64) := by rw [bit_u64, hx7]
      have h1 : ((((s.setWidth 64 >>> 23 &&& 1#64) ^^^ ((l.getD (i / 8) 0 >>> (7 - xi % 8).toNat).setWidth 64 &&& 1#64)).toNat : Nat) : Int) = 1 ↔ ((s >>> 23) &&& 1#32) ^^^ (if (l.getD (i / 8) 0).getLsbD (7 - i % 8) then 1#32 else 0#32) = 1#32 := (eq_one64 _).trans (by rw [h0]; exact step64 s _)
    · have e : (s.setWidth 64 <<< Int.toNat 1 &&& 16777215#64 ^^^ 6122955#64) = (crcStep s ((l.getD (i / 8) 0).getLsbD (7 - i % 8))).setWidth 64 := by
        unfold crcStep
        rw [if_pos (h1.1 hsplit), BitVec.setWidth_xor, ← sw_shl]
        rfl
      rw [← hnx] at e
      exact again (m - 1) (by omega) (Sub.cons rfl (Sub.cons rfl (Sub.cons rfl (Sub.cons rfl (Sub.cons rfl Sub.nil))))) (List.Sublist.refl _) ⟨i + 1, xi + 1, by omega, by omega, by rw [← e], rfl⟩
    · have e : (s.setWidth 64 <<< Int.toNat 1 &&& 16777215#64) = (crcStep s ((l.getD (i / 8) 0).getLsbD (7 - i % 8))).setWidth 64 := by
        unfold crcStep
        rw [if_neg (fun h => hsplit (h1.2 h)), ← sw_shl]
        rfl
      rw [← hnx] at e
      exact again (m - 1) (by omega) (Sub.cons rfl (Sub.cons rfl (Sub.cons rfl (Sub.cons rfl (Sub.cons rfl Sub.nil))))) (List.Sublist.refl _) ⟨i + 1, xi + 1, by omega, by omega, by rw [← e], rfl⟩
  · rw [List.take_of_length_le (by omega)]
    repeat' ((try (conv => whnf)); (first | refine Pick.mk _ (conv_u64_32 _) ?_ | refine Need.au ?_ | (refine Split.mk (fun hsplit => ?_) (fun hsplit => ?_) <;> (try simp only [List.cons.injEq, and_true, true_and, not_true_eq_false, not_false_eq_true] at hsplit) <;> try (exfalso; omega)) | refine Pick.au ?_ | refine store_au ?_ | refine Any.mk (fun _ => ?_) | refine Both.mk ?_ ?_)); all_goals (try (conv => whnf))
    all_goals exact Done.mk rfl
theorem rwhole_v (A : Option Addr) (l : List B8) (ck : Nat) (hlk : l.length ≤ 1125899906842624) (w : World) (hA : At w A (l.map b8)) : Val Tryz.prog 116 [.slice A l.length ck] w (w32 (crcSum l)) := by
  refine val_vc tab_ok Tryz.func116 rfl rfl ?_
  repeat' ((try (conv => whnf)); (first | refine CallVC.val (fun w2 h2 => rof_v A l ck hlk w2 (hA.here h2 (fun _ _ => by simp))) ?_ | refine Need.au ?_ | (refine Split.mk (fun hsplit => ?_) (fun hsplit => ?_) <;> (try simp only [List.cons.injEq, and_true, true_and, not_true_eq_false, not_false_eq_true] at hsplit) <;> try (exfalso; omega)) | refine Pick.au ?_ | refine store_au ?_ | refine Any.mk (fun _ => ?_) | refine Both.mk ?_ ?_)); all_goals (try (conv => whnf))
  all_goals exact Done.mk rfl
end Go.Proofs.YtnlheljpagpiiaaGreat
