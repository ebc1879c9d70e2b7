/-
  Bits that are read, in the document: numbers, rows of bytes, the end; every input. Frames that are read, in the program: numbers, rows, all of a frame; every input.
-/
import Derived.Test.YtnlheljpagpiiaaGb
namespace Go.Proofs.Ytnlheljpagpiiaa
section
set_option linter.unusedVariables false
set_option linter.unusedSimpArgs false
set_option maxRecDepth 100000
set_option maxHeartbeats 8000000
open Go
attribute [local irreducible] bitsOf shlOf shrOf pack numBits numOf bytesBits rowAt
theorem bit_and8 (c : B8) (k : Nat) : (((c >>> k) &&& 1#8).setWidth 64) = if c.getLsbD k then 1#64 else 0#64 := by
  rw [← bit_u8_64]
  apply BitVec.eq_of_getLsbD_eq
  intro i hi
  rw [BitVec.getLsbD_and, BitVec.getLsbD_setWidth, BitVec.getLsbD_setWidth, BitVec.getLsbD_and]
  cases i with
  | zero => simp
  | succ i =>
    have e1 : (1#64 : BitVec 64).getLsbD (i + 1) = false := by simp [BitVec.getLsbD_one]
    have e2 : (1#8 : BitVec 8).getLsbD (i + 1) = false := by simp [BitVec.getLsbD_one]
    rw [e1, e2]; simp
theorem numOf_zero : ∀ (n : Nat) (xs : List Bool), xs.length = n → n ≤ 64 → (numOf xs = 0#64 ↔ xs.all (! ·) = true)
  | 0, xs, h, _ => by
    rw [List.eq_nil_of_length_eq_zero h]
    unfold numOf
    simp
  | n + 1, xs, h, hn => by
    obtain ⟨ys, b, rfl⟩ : ∃ ys b, xs = ys ++ [b] := ⟨xs.dropLast, xs.getLast (by intro e; rw [e] at h; cases h), (List.dropLast_concat_getLast _).symm⟩
    have hy : ys.length = n := by rw [List.length_append] at h; simpa using h
    have ih := numOf_zero n ys hy (by omega)
    have hlt := numOf_lt n ys hy (by omega)
    have h63 : 2 ^ n ≤ 2 ^ 63 := Nat.pow_le_pow_right (by decide) (by omega)
    have hor := or_bit (numOf ys) b
    rw [numOf_end, List.all_append, Bool.and_eq_true, ← ih]
    rw [Nat.mod_eq_of_lt (by cases b <;> simp <;> omega)] at hor
    constructor
    · intro h0
      have e : ((numOf ys <<< 1) ||| (if b then 1#64 else 0#64)).toNat = 0 := by rw [h0]; rfl
      rw [hor] at e
      cases b
      · refine ⟨BitVec.eq_of_toNat_eq ?_, rfl⟩
        show _ = 0
        simp at e
        omega
      · simp at e
    · rintro ⟨h1, h2⟩
      cases b
      · apply BitVec.eq_of_toNat_eq
        rw [hor, h1]
        rfl
      · simp at h2
section
variable {G : Cx} {hs : Hp}
end
end
section
set_option linter.unusedVariables false
set_option linter.unusedSimpArgs false
set_option maxRecDepth 100000
set_option maxHeartbeats 8000000
open Go
attribute [local irreducible] bitsOf shlOf shrOf pack numBits numOf bytesBits rowAt
section
variable {G : Cx} {hs : Hp}
/-- A callee that changes what it is handed; what is known behind it in another order. -/
theorem CallVC.mutP {f : Nat} {args : List Value} {K : Value → Hp → Prop} {R : Value → Hp → Prop} (pre rest : Hp) (hp : hs.Perm (pre ++ rest))
    (hc : ∀ w, St G hs w → St ⟨G.P, w, ids pre⟩ pre w → Mut G.P f args w pre fun v hs2 => ∃ L, List.Sublist L hs2 ∧ R v L) (hk : ∀ v L, R v L → ∃ L', (L ++ rest).Perm L' ∧ K v L') : CallVC G hs f args K := by
  refine ⟨K, fun w hw => (hc w hw (hw.only hp)).calls.mono ?_, fun _ _ h => h⟩
  rintro e w' ⟨v, hs2, rfl, ⟨L, hL, hr⟩, hst⟩
  obtain ⟨L', hp', hk'⟩ := hk v L hr
  exact ⟨v, L', rfl, hk', ((hw.transM hp hst).sub (hL.append_right rest)).perm hp'⟩
theorem CallVC.getY {K : Value → Hp → Prop} {rp : Nat} {A : Option Addr} {C p wd : Nat} {r1 : Hp} (l : List B8) (hP : G.P = Try.prog) (hl : l.length ≤ 140737488351232) (h1 : Take (rE rp A l.length C p) hs r1) (hwd : wd ≤ 64) (hfit : p + wd ≤ 8 * l.length) (hA : ∀ w, St G hs w → At w A (l.map b8)) (hd : l ≠ [] → ∀ a, A = some a → a.block ∉ [rp])
    (hk : K (.tuple #[w64 (numOf (((bytesBits l).drop p).take wd)), .int .i64 0]) (rE rp A l.length C (p + wd) :: r1)) : CallVC G hs 46 [.pointer (some ⟨rp, 0, none⟩), .int .i64 (wd : Int)] K := by
  refine CallVC.mutT [rE rp A l.length C p] r1 h1.perm (fun w2 h2 h3 => hP ▸ get_yes rp A l C p wd hl hwd hfit w2 (hA w2 h2) hd (hP ▸ h3)) ?_
  rintro v H ⟨rfl, rfl⟩
  exact hk
theorem CallVC.getN {K : Value → Hp → Prop} {rp : Nat} {A : Option Addr} {C p wd : Nat} {r1 : Hp} (l : List B8) (hP : G.P = Try.prog) (hl : l.length ≤ 140737488351232) (h1 : Take (rE rp A l.length C p) hs r1) (hwd : wd ≤ 64) (hp : p ≤ 8 * l.length) (hfit : ¬ p + wd ≤ 8 * l.length)
    (hk : K (.tuple #[w64 0#64, .int .i64 3]) (rE rp A l.length C p :: r1)) : CallVC G hs 46 [.pointer (some ⟨rp, 0, none⟩), .int .i64 (wd : Int)] K := by
  refine CallVC.mutT [rE rp A l.length C p] r1 h1.perm (fun w2 h2 h3 => hP ▸ get_no rp A l C p wd hl hwd hp hfit w2 (hP ▸ h3)) ?_
  rintro v H ⟨rfl, rfl⟩
  exact hk
theorem CallVC.rowY {K : Value → Hp → Prop} {rp : Nat} {A : Option Addr} {C p n : Nat} {r1 : Hp} (l : List B8) (hP : G.P = Try.prog) (hl : l.length ≤ 140737488351232) (h1 : Take (rE rp A l.length C p) hs r1) (hn : n ≤ 1024) (hfit : p + 8 * n ≤ 8 * l.length) (hA : ∀ w, St G hs w → At w A (l.map b8)) (hd : l ≠ [] → ∀ a, A = some a → a.block ∉ [rp])
    (hk : ∀ B c E, Own B (rowAt (bytesBits l) p n) c E → K (.tuple #[.slice B (rowAt (bytesBits l) p n).length c, .int .i64 0]) (rE rp A l.length C (p + 8 * n) :: (r1 ++ E))) : CallVC G hs 45 [.pointer (some ⟨rp, 0, none⟩), .int .i64 (n : Int)] K := by
  refine CallVC.mutP [rE rp A l.length C p] r1 h1.perm (fun w2 h2 h3 => hP ▸ rdbytes_yes rp A l C p n hl hn hfit w2 (hA w2 h2) hd (hP ▸ h3)) ?_
  rintro v H ⟨B, c, E, rfl, hO, rfl⟩
  refine ⟨_, ?_, hk B c E hO⟩
  rw [List.append_assoc]
  exact List.perm_append_comm.trans (List.Perm.refl _)
theorem CallVC.rowN {K : Value → Hp → Prop} {rp : Nat} {A : Option Addr} {C p n : Nat} {r1 : Hp} (l : List B8) (hP : G.P = Try.prog) (hl : l.length ≤ 140737488351232) (h1 : Take (rE rp A l.length C p) hs r1) (hn : n ≤ 1024) (hp : p ≤ 8 * l.length) (hfit : ¬ p + 8 * n ≤ 8 * l.length)
    (hk : ∀ B c E, Own B [] c E → K (.tuple #[.slice B ([] : List B8).length c, .int .i64 3]) (rE rp A l.length C p :: (r1 ++ E))) : CallVC G hs 45 [.pointer (some ⟨rp, 0, none⟩), .int .i64 (n : Int)] K := by
  refine CallVC.mutP [rE rp A l.length C p] r1 h1.perm (fun w2 h2 h3 => hP ▸ rdbytes_no rp A l C p n hl hn hp hfit w2 (hP ▸ h3)) ?_
  rintro v H ⟨B, c, E, rfl, hO, rfl⟩
  refine ⟨_, ?_, hk B c E hO⟩
  rw [List.append_assoc]
  exact List.perm_append_comm.trans (List.Perm.refl _)
end
/-- The block of a frame's reader. -/
abbrev frE (fp rp : Nat) (lost : Bool) : Ent := ⟨fp, [.pointer (some ⟨rp, 0, none⟩), .bool lost], 56, (0, 0)⟩
theorem not_two {l : List B8} {A : Option Addr} {rp fp : Nat} (hd : l ≠ [] → ∀ a, A = some a → a.block ∉ [rp, fp]) : l ≠ [] → ∀ a, A = some a → a.block ∉ [rp] := fun hx a ha h => hd hx a ha (by rw [List.mem_singleton] at h; rw [h]; exact List.Mem.head _)
theorem fnum_m (fp rp : Nat) (A : Option Addr) (l : List B8) (C : Nat) (s : Rd) (wd : Nat) (hl : l.length ≤ 140737488351232) (hwd : wd ≤ 64) (hp : s.at_ ≤ 8 * l.length) (w : World) (hA : At w A (l.map b8)) (hd : l ≠ [] → ∀ a, A = some a → a.block ∉ [rp, fp]) (hw : St ⟨Try.prog, w, [rp, fp]⟩ [rE rp A l.length C s.at_, frE fp rp s.lost] w) :
    Mut Try.prog 28 [.pointer (some ⟨fp, 0, none⟩), .int .i64 (wd : Int)] w [rE rp A l.length C s.at_, frE fp rp s.lost] fun v hs2 => ∃ H, List.Sublist H hs2 ∧ v = w64 (s.num (bytesBits l) wd) ∧ H = [rE rp A l.length C (s.skip (bytesBits l) wd).at_, frE fp rp (s.skip (bytesBits l) wd).lost] := by
  have hbl := bytesBits_len l
  obtain ⟨p, lost⟩ := s
  dsimp only at hp
  unfold Rd.num Rd.skip
  dsimp only
  rw [hbl]
  by_cases hfit : p + wd ≤ 8 * l.length
  · rw [if_pos hfit, if_pos hfit]
    cases lost
    · refine mut_vc tab_ok Try.func28 rfl rfl hw ?_
      repeat' ((try (conv => whnf)); (first | refine CallVC.getY l rfl hl (by repeat (first | exact Take.head _ | apply Take.tail)) hwd (by omega) (fun w2 h2 => hA.here2 h2 hd) (not_two hd) ?_ | refine Need.au ?_ | (refine Split.mk (fun hsplit => ?_) (fun hsplit => ?_) <;> (try simp only [List.cons.injEq, and_true, true_and, not_true_eq_false, not_false_eq_true] at hsplit) <;> try (exfalso; omega)) | refine Pick.au ?_ | refine store_au ?_ | refine Any.mk (fun _ => ?_) | refine Both.mk ?_ ?_)); all_goals (try (conv => whnf))
      exact Done.mk ⟨_, List.Sublist.refl _, rfl, rfl⟩
    · refine mut_vc tab_ok Try.func28 rfl rfl hw ?_
      repeat' ((try (conv => whnf)); (first | refine CallVC.getY l rfl hl (by repeat (first | exact Take.head _ | apply Take.tail)) hwd (by omega) (fun w2 h2 => hA.here2 h2 hd) (not_two hd) ?_ | refine Need.au ?_ | (refine Split.mk (fun hsplit => ?_) (fun hsplit => ?_) <;> (try simp only [List.cons.injEq, and_true, true_and, not_true_eq_false, not_false_eq_true] at hsplit) <;> try (exfalso; omega)) | refine Pick.au ?_ | refine store_au ?_ | refine Any.mk (fun _ => ?_) | refine Both.mk ?_ ?_)); all_goals (try (conv => whnf))
      exact Done.mk ⟨_, List.Sublist.refl _, rfl, rfl⟩
  · rw [if_neg hfit, if_neg hfit]
    cases lost
    · refine mut_vc tab_ok Try.func28 rfl rfl hw ?_
      repeat' ((try (conv => whnf)); (first | refine CallVC.getN l rfl hl (by repeat (first | exact Take.head _ | apply Take.tail)) hwd hp (by omega) ?_ | refine Need.au ?_ | (refine Split.mk (fun hsplit => ?_) (fun hsplit => ?_) <;> (try simp only [List.cons.injEq, and_true, true_and, not_true_eq_false, not_false_eq_true] at hsplit) <;> try (exfalso; omega)) | refine Pick.au ?_ | refine store_au ?_ | refine Any.mk (fun _ => ?_) | refine Both.mk ?_ ?_)); all_goals (try (conv => whnf))
      exact Done.mk ⟨_, List.Sublist.refl _, rfl, rfl⟩
    · refine mut_vc tab_ok Try.func28 rfl rfl hw ?_
      repeat' ((try (conv => whnf)); (first | refine CallVC.getN l rfl hl (by repeat (first | exact Take.head _ | apply Take.tail)) hwd hp (by omega) ?_ | refine Need.au ?_ | (refine Split.mk (fun hsplit => ?_) (fun hsplit => ?_) <;> (try simp only [List.cons.injEq, and_true, true_and, not_true_eq_false, not_false_eq_true] at hsplit) <;> try (exfalso; omega)) | refine Pick.au ?_ | refine store_au ?_ | refine Any.mk (fun _ => ?_) | refine Both.mk ?_ ?_)); all_goals (try (conv => whnf))
      exact Done.mk ⟨_, List.Sublist.refl _, rfl, rfl⟩
section
variable {G : Cx} {hs : Hp}
theorem CallVC.fnum {K : Value → Hp → Prop} {fp rp : Nat} {A : Option Addr} {C wd : Nat} {r1 r2 : Hp} (l : List B8) (s : Rd) (hP : G.P = Try.prog) (hl : l.length ≤ 140737488351232) (h1 : Take (rE rp A l.length C s.at_) hs r1) (h2 : Take (frE fp rp s.lost) r1 r2) (hwd : wd ≤ 64) (hp : s.at_ ≤ 8 * l.length) (hA : ∀ w, St G hs w → At w A (l.map b8)) (hd : l ≠ [] → ∀ a, A = some a → a.block ∉ [rp, fp])
    (hk : K (w64 (s.num (bytesBits l) wd)) (rE rp A l.length C (s.skip (bytesBits l) wd).at_ :: frE fp rp (s.skip (bytesBits l) wd).lost :: r2)) : CallVC G hs 28 [.pointer (some ⟨fp, 0, none⟩), .int .i64 (wd : Int)] K := by
  refine CallVC.mutT [rE rp A l.length C s.at_, frE fp rp s.lost] r2 (h1.perm.trans (List.Perm.cons _ h2.perm)) (fun w2 h2 h3 => hP ▸ fnum_m fp rp A l C s wd hl hwd hp w2 (hA w2 h2) hd (hP ▸ h3)) ?_
  rintro v H ⟨rfl, rfl⟩
  exact hk
end
theorem fint_m (fp rp : Nat) (A : Option Addr) (l : List B8) (C : Nat) (s : Rd) (wd : Nat) (hl : l.length ≤ 140737488351232) (hwd : wd ≤ 63) (hp : s.at_ ≤ 8 * l.length) (w : World) (hA : At w A (l.map b8)) (hd : l ≠ [] → ∀ a, A = some a → a.block ∉ [rp, fp]) (hw : St ⟨Try.prog, w, [rp, fp]⟩ [rE rp A l.length C s.at_, frE fp rp s.lost] w) :
    Mut Try.prog 26 [.pointer (some ⟨fp, 0, none⟩), .int .i64 (wd : Int)] w [rE rp A l.length C s.at_, frE fp rp s.lost] fun v hs2 => ∃ H, List.Sublist H hs2 ∧ v = .int .i64 ((s.num (bytesBits l) wd).toNat : Int) ∧ H = [rE rp A l.length C (s.skip (bytesBits l) wd).at_, frE fp rp (s.skip (bytesBits l) wd).lost] := by
  have hlt := Rd.num_lt (bytesBits l) s wd (by omega)
  have h63 : 2 ^ wd ≤ 2 ^ 63 := Nat.pow_le_pow_right (by decide) hwd
  refine mut_vc tab_ok Try.func26 rfl rfl hw ?_
  repeat' ((try (conv => whnf)); (first | refine CallVC.fnum l s rfl hl (by repeat (first | exact Take.head _ | apply Take.tail)) (by repeat (first | exact Take.head _ | apply Take.tail)) (by omega) hp (fun w2 h2 => hA.here2 h2 hd) hd ?_ | refine Need.au ?_ | (refine Split.mk (fun hsplit => ?_) (fun hsplit => ?_) <;> (try simp only [List.cons.injEq, and_true, true_and, not_true_eq_false, not_false_eq_true] at hsplit) <;> try (exfalso; omega)) | refine Pick.au ?_ | refine store_au ?_ | refine Any.mk (fun _ => ?_) | refine Both.mk ?_ ?_)); all_goals (try (conv => whnf))
  exact Done.mk ⟨_, List.Sublist.refl _, rfl, rfl⟩
theorem fbytes_m (fp rp : Nat) (A : Option Addr) (l : List B8) (C : Nat) (s : Rd) (n : Nat) (hl : l.length ≤ 140737488351232) (hn : n ≤ 1024) (hp : s.at_ ≤ 8 * l.length) (w : World) (hA : At w A (l.map b8)) (hd : l ≠ [] → ∀ a, A = some a → a.block ∉ [rp, fp]) (hw : St ⟨Try.prog, w, [rp, fp]⟩ [rE rp A l.length C s.at_, frE fp rp s.lost] w) :
    Mut Try.prog 27 [.pointer (some ⟨fp, 0, none⟩), .int .i64 (n : Int)] w [rE rp A l.length C s.at_, frE fp rp s.lost] fun v hs2 => ∃ H, List.Sublist H hs2 ∧ ∃ B c E, v = .slice B (s.row (bytesBits l) n).length c ∧ Own B (s.row (bytesBits l) n) c E ∧ H = rE rp A l.length C (s.skip (bytesBits l) (8 * n)).at_ :: frE fp rp (s.skip (bytesBits l) (8 * n)).lost :: E := by
  have hbl := bytesBits_len l
  obtain ⟨p, lost⟩ := s
  dsimp only at hp
  unfold Rd.row Rd.skip
  dsimp only
  rw [hbl]
  by_cases hfit : p + 8 * n ≤ 8 * l.length
  · rw [if_pos hfit, if_pos hfit]
    cases lost
    · refine mut_vc tab_ok Try.func27 rfl rfl hw ?_
      repeat' ((try (conv => whnf)); (first | (refine CallVC.rowY l rfl hl (by repeat (first | exact Take.head _ | apply Take.tail)) hn (by omega) (fun w2 h2 => hA.here2 h2 hd) (not_two hd) (fun B c E hO => ?_)) | refine Need.au ?_ | (refine Split.mk (fun hsplit => ?_) (fun hsplit => ?_) <;> (try simp only [List.cons.injEq, and_true, true_and, not_true_eq_false, not_false_eq_true] at hsplit) <;> try (exfalso; omega)) | refine Pick.au ?_ | refine store_au ?_ | refine Any.mk (fun _ => ?_) | refine Both.mk ?_ ?_)); all_goals (try (conv => whnf))
      exact Done.mk ⟨_, List.Sublist.refl _, B, c, E, rfl, hO, rfl⟩
    · refine mut_vc tab_ok Try.func27 rfl rfl hw ?_
      repeat' ((try (conv => whnf)); (first | (refine CallVC.rowY l rfl hl (by repeat (first | exact Take.head _ | apply Take.tail)) hn (by omega) (fun w2 h2 => hA.here2 h2 hd) (not_two hd) (fun B c E hO => ?_)) | refine Need.au ?_ | (refine Split.mk (fun hsplit => ?_) (fun hsplit => ?_) <;> (try simp only [List.cons.injEq, and_true, true_and, not_true_eq_false, not_false_eq_true] at hsplit) <;> try (exfalso; omega)) | refine Pick.au ?_ | refine store_au ?_ | refine Any.mk (fun _ => ?_) | refine Both.mk ?_ ?_)); all_goals (try (conv => whnf))
      exact Done.mk ⟨_, List.Sublist.refl _, B, c, E, rfl, hO, rfl⟩
  · rw [if_neg hfit, if_neg hfit]
    cases lost
    · refine mut_vc tab_ok Try.func27 rfl rfl hw ?_
      repeat' ((try (conv => whnf)); (first | (refine CallVC.rowN l rfl hl (by repeat (first | exact Take.head _ | apply Take.tail)) hn hp (by omega) (fun B c E hO => ?_)) | refine Need.au ?_ | (refine Split.mk (fun hsplit => ?_) (fun hsplit => ?_) <;> (try simp only [List.cons.injEq, and_true, true_and, not_true_eq_false, not_false_eq_true] at hsplit) <;> try (exfalso; omega)) | refine Pick.au ?_ | refine store_au ?_ | refine Any.mk (fun _ => ?_) | refine Both.mk ?_ ?_)); all_goals (try (conv => whnf))
      exact Done.mk ⟨_, List.Sublist.refl _, B, c, E, rfl, hO, rfl⟩
    · refine mut_vc tab_ok Try.func27 rfl rfl hw ?_
      repeat' ((try (conv => whnf)); (first | (refine CallVC.rowN l rfl hl (by repeat (first | exact Take.head _ | apply Take.tail)) hn hp (by omega) (fun B c E hO => ?_)) | refine Need.au ?_ | (refine Split.mk (fun hsplit => ?_) (fun hsplit => ?_) <;> (try simp only [List.cons.injEq, and_true, true_and, not_true_eq_false, not_false_eq_true] at hsplit) <;> try (exfalso; omega)) | refine Pick.au ?_ | refine store_au ?_ | refine Any.mk (fun _ => ?_) | refine Both.mk ?_ ?_)); all_goals (try (conv => whnf))
      exact Done.mk ⟨_, List.Sublist.refl _, B, c, E, rfl, hO, rfl⟩
section
variable {G : Cx} {hs : Hp}
theorem CallVC.fint {K : Value → Hp → Prop} {fp rp : Nat} {A : Option Addr} {C : Nat} {r1 r2 : Hp} (l : List B8) (s : Rd) (wd : Nat) (hP : G.P = Try.prog) (hl : l.length ≤ 140737488351232) (h1 : Take (rE rp A l.length C s.at_) hs r1) (h2 : Take (frE fp rp s.lost) r1 r2) (hwd : wd ≤ 63) (hp : s.at_ ≤ 8 * l.length) (hA : ∀ w, St G hs w → At w A (l.map b8)) (hd : l ≠ [] → ∀ a, A = some a → a.block ∉ [rp, fp])
    (hk : K (.int .i64 ((s.num (bytesBits l) wd).toNat : Int)) (rE rp A l.length C (s.skip (bytesBits l) wd).at_ :: frE fp rp (s.skip (bytesBits l) wd).lost :: r2)) : CallVC G hs 26 [.pointer (some ⟨fp, 0, none⟩), .int .i64 (wd : Int)] K := by
  refine CallVC.mutT [rE rp A l.length C s.at_, frE fp rp s.lost] r2 (h1.perm.trans (List.Perm.cons _ h2.perm)) (fun w2 h2 h3 => hP ▸ fint_m fp rp A l C s wd hl hwd hp w2 (hA w2 h2) hd (hP ▸ h3)) ?_
  rintro v H ⟨rfl, rfl⟩
  exact hk
theorem CallVC.fbytes {K : Value → Hp → Prop} {fp rp : Nat} {A : Option Addr} {C : Nat} {r1 r2 : Hp} (l : List B8) (s : Rd) (n : Nat) (hP : G.P = Try.prog) (hl : l.length ≤ 140737488351232) (h1 : Take (rE rp A l.length C s.at_) hs r1) (h2 : Take (frE fp rp s.lost) r1 r2) (hn : n ≤ 1024) (hp : s.at_ ≤ 8 * l.length) (hA : ∀ w, St G hs w → At w A (l.map b8)) (hd : l ≠ [] → ∀ a, A = some a → a.block ∉ [rp, fp])
    (hk : ∀ B c E, Own B (s.row (bytesBits l) n) c E → K (.slice B (s.row (bytesBits l) n).length c) (rE rp A l.length C (s.skip (bytesBits l) (8 * n)).at_ :: frE fp rp (s.skip (bytesBits l) (8 * n)).lost :: (r2 ++ E))) : CallVC G hs 27 [.pointer (some ⟨fp, 0, none⟩), .int .i64 (n : Int)] K := by
  refine CallVC.mutP [rE rp A l.length C s.at_, frE fp rp s.lost] r2 (h1.perm.trans (List.Perm.cons _ h2.perm)) (fun w2 h2 h3 => hP ▸ fbytes_m fp rp A l C s n hl hn hp w2 (hA w2 h2) hd (hP ▸ h3)) ?_
  rintro v H ⟨B, c, E, rfl, hO, rfl⟩
  exact ⟨_, List.Perm.cons _ (List.Perm.cons _ List.perm_append_comm), hk B c E hO⟩
end
end
end Go.Proofs.Ytnlheljpagpiiaa
