/-
  What is written of a frame is read again: numbers and rows of bytes, as bits; plain laws, no program in sight. Bits in bytes, and back; plain laws, no program in sight. A frame's bytes, read again, are the frame; plain laws, no program in sight. Bytes and frames: each is the other's; plain laws, no program in sight.
-/
import Derived.Test.YtnlheljpagpiiaaGreatHd
namespace Go.Proofs.YtnlheljpagpiiaaGreat
section
set_option linter.unusedVariables false
set_option linter.unusedSimpArgs false
set_option maxRecDepth 100000
set_option maxHeartbeats 8000000
open Go
theorem take_len {α : Type} {a b : List α} {n : Nat} (h : a.length = n) : (a ++ b).take n = a := by subst h; exact List.take_left
theorem drop_len {α : Type} {a b : List α} {n : Nat} (h : a.length = n) : (a ++ b).drop n = b := by subst h; exact List.drop_left
theorem shr_next (v : BitVec 64) (k : Nat) (hk : k < 64) : ((v >>> (k + 1)) <<< 1) ||| (if v.getLsbD k then 1#64 else 0#64) = v >>> k := by
  apply BitVec.eq_of_getLsbD_eq
  intro i hi
  rw [BitVec.getLsbD_or, BitVec.getLsbD_shiftLeft, BitVec.getLsbD_ushiftRight, BitVec.getLsbD_ushiftRight]
  cases i with
  | zero => cases h : v.getLsbD k <;> simp [h]
  | succ i =>
    have e1 : (if v.getLsbD k then 1#64 else 0#64 : BitVec 64).getLsbD (i + 1) = false := by
      cases v.getLsbD k <;> simp [BitVec.getLsbD_one]
    rw [e1, show k + 1 + (i + 1 - 1) = k + (i + 1) by omega]
    simp [hi]
theorem num_top (v : BitVec 64) (w : Nat) (hw : w ≤ 64) (hv : v >>> w = 0#64) : ∀ j, j ≤ w → numOf (topBits v w j) = v >>> (w - j)
  | 0, _ => by rw [Nat.sub_zero, hv]; rfl
  | j + 1, h => by
    rw [topBits, numOf_end, num_top v w hw hv j (by omega), show w - j = (w - 1 - j) + 1 by omega, show w - (j + 1) = w - 1 - j by omega]
    exact shr_next v _ (by omega)
theorem num_iBits {x : Int} {w : Nat} (h : fitsIn (x, w)) : numOf (iBits x w) = BitVec.ofInt 64 x := by
  obtain ⟨h1, h2, h3⟩ := h
  dsimp only at h1 h2 h3
  unfold iBits numBits
  rw [num_top _ w h1 (shr_ofInt h1 h2 h3) w (Nat.le_refl _), Nat.sub_self]
  simp
theorem num_int {x : Int} {w : Nat} (h : fitsIn (x, w)) : ((numOf (iBits x w)).toNat : Int) = x := by
  rw [num_iBits h]
  exact ofInt_nat h.2.1 (fits_lt h.1 h.2.2)
theorem byte_iBits (c : B8) : (numOf (numBits (c.setWidth 64) 8)).setWidth 8 = c := by
  unfold numBits
  rw [num_top _ 8 (by decide) (byte_small c) 8 (Nat.le_refl _), Nat.sub_self]
  apply BitVec.eq_of_getLsbD_eq
  intro i hi
  simp [hi]
/-- Where a reader is: what is yet to come; nothing was missing. -/
structure RdAt (bs : List Bool) (s : Rd) (rest : List Bool) : Prop where
  drop : bs.drop s.at_ = rest
  le : s.at_ ≤ bs.length
  fine : s.lost = false
theorem RdAt.len {bs : List Bool} {s : Rd} {rest : List Bool} (h : RdAt bs s rest) : s.at_ + rest.length = bs.length := by
  rw [← h.drop, List.length_drop]
  have := h.le
  omega
theorem RdAt.skip {bs : List Bool} {s : Rd} {xs rest : List Bool} {w : Nat} (h : RdAt bs s (xs ++ rest)) (hw : xs.length = w) : RdAt bs (s.skip bs w) rest := by
  have hl := h.len
  rw [List.length_append] at hl
  unfold Rd.skip
  rw [if_pos (by omega)]
  refine ⟨?_, by show s.at_ + w ≤ bs.length; omega, h.fine⟩
  show bs.drop (s.at_ + w) = rest
  rw [← List.drop_drop, h.drop, drop_len hw]
theorem RdAt.num {bs : List Bool} {s : Rd} {rest : List Bool} {x : Int} {w : Nat} (h : RdAt bs s (iBits x w ++ rest)) (hf : fitsIn (x, w)) : (s.num bs w) = BitVec.ofInt 64 x ∧ ((s.num bs w).toNat : Int) = x ∧ RdAt bs (s.skip bs w) rest := by
  have hl := h.len
  rw [List.length_append, iBits_len] at hl
  have e : s.num bs w = numOf (iBits x w) := by
    unfold Rd.num
    rw [if_pos (by omega), h.drop, take_len (iBits_len x w)]
  exact ⟨by rw [e, num_iBits hf], by rw [e, num_int hf], h.skip (iBits_len x w)⟩
theorem rowAt_bytes (bs : List Bool) : ∀ (l : List B8) (p : Nat) (rest : List Bool), bs.drop p = bytesBits l ++ rest → rowAt bs p l.length = l
  | [], p, rest, _ => rfl
  | c :: l, p, rest, h => by
    have h8 : (numBits (c.setWidth 64) 8).length = 8 := topBits_len _ _ _
    have h2 : bs.drop (p + 8) = bytesBits l ++ rest := by
      rw [← List.drop_drop, h, bytesBits, List.append_assoc, drop_len h8]
    have ih := rowAt_bytes bs l (p + 8) rest h2
    have e : rowAt bs p (c :: l).length = (numOf ((bs.drop p).take 8)).setWidth 8 :: rowAt bs (p + 8) l.length := by
      unfold rowAt
      rw [List.length_cons, List.range_succ_eq_map, List.map_cons, List.map_map]
      congr 1
      apply List.map_congr_left
      intro i _
      show (numOf ((bs.drop (p + 8 * (i + 1))).take 8)).setWidth 8 = (numOf ((bs.drop (p + 8 + 8 * i)).take 8)).setWidth 8
      rw [show p + 8 * (i + 1) = p + 8 + 8 * i by omega]
    rw [e, ih, h, bytesBits, List.append_assoc]
    congr 1
    rw [take_len h8]
    exact byte_iBits c
theorem RdAt.row {bs : List Bool} {s : Rd} {rest : List Bool} {l : List B8} (h : RdAt bs s (bytesBits l ++ rest)) : s.row bs l.length = l ∧ RdAt bs (s.skip bs (8 * l.length)) rest := by
  have hl := h.len
  rw [List.length_append, bytesBits_len] at hl
  refine ⟨?_, h.skip (bytesBits_len l)⟩
  unfold Rd.row
  rw [if_pos (by omega)]
  exact rowAt_bytes bs l _ rest h.drop
end
section
set_option linter.unusedVariables false
set_option linter.unusedSimpArgs false
set_option maxRecDepth 100000
set_option maxHeartbeats 8000000
open Go
def bits8 (c : B8) : List Bool := numBits (c.setWidth 64) 8
theorem bits8_len (c : B8) : (bits8 c).length = 8 := topBits_len _ _ _
theorem bits8_get (c : B8) (j : Nat) (hj : j < 8) : (bits8 c)[j]? = some (c.getLsbD (7 - j)) := by
  unfold bits8 numBits
  rw [topBits_get _ _ _ _ hj, BitVec.getLsbD_setWidth, show 8 - 1 - j = 7 - j by omega]
  simp
  omega
theorem bitB_get (b : Bool) (k i : Nat) (hk : k < 8) (hi : i < 8) : (bitB b k).getLsbD (7 - i) = (decide (i = k) && b) := by
  unfold bitB
  rw [BitVec.getLsbD_shiftLeft]
  cases b
  · simp
  · by_cases h : i = k
    · subst h
      simp
      omega
    · rw [decide_eq_false h, Bool.false_and]
      by_cases h2 : 7 - i < 7 - k
      · simp [h2]
      · have e : (1#8 : BitVec 8).getLsbD (7 - i - (7 - k)) = false := by
          rw [BitVec.getLsbD_one]
          simp
          omega
        simp [e]
theorem bits8_or (c : B8) (b : Bool) (k : Nat) (hk : k < 8) (hc : (bits8 c)[k]? = some false) : bits8 (c ||| bitB b k) = (bits8 c).set k b := by
  apply List.ext_getElem?
  intro i
  by_cases hi : i < 8
  · rw [bits8_get _ _ hi, List.getElem?_set, BitVec.getLsbD_or, bitB_get b k i hk hi, bits8_get _ _ hi, bits8_len]
    by_cases h : k = i
    · subst h
      rw [bits8_get _ _ hk] at hc
      rw [if_pos rfl, if_pos hk]
      simp only [Option.some.injEq] at hc
      rw [hc]; simp
    · rw [if_neg h, decide_eq_false (fun e => h e.symm)]; simp
  · rw [List.getElem?_eq_none (by rw [bits8_len]; omega), List.getElem?_eq_none (by rw [List.length_set, bits8_len]; omega)]
/-- The noughts that fill a byte. -/
def padF (n : Nat) : List Bool := List.replicate ((8 - n % 8) % 8) false
theorem bytesBits_one (c : B8) : bytesBits [c] = bits8 c := List.append_nil _
theorem bits_pack : ∀ (n : Nat) (bs : List Bool), bs.length = n → bytesBits (pack bs) = bs ++ padF n
  | 0, bs, h => by
    rw [List.eq_nil_of_length_eq_zero h]
    rfl
  | n + 1, bs, h => by
    obtain ⟨ys, b, rfl⟩ : ∃ ys b, bs = ys ++ [b] := ⟨bs.dropLast, bs.getLast (by intro e; rw [e] at h; cases h), (List.dropLast_concat_getLast _).symm⟩
    have hy : ys.length = n := by rw [List.length_append] at h; simpa using h
    have ih := bits_pack n ys hy
    have hpl := pack_len ys
    rw [pack_end]
    generalize pack ys = l at *
    unfold pushB
    by_cases h0 : ys.length % 8 = 0
    · rw [if_pos h0, bytesBits_app, ih, bytesBits_one]
      have e1 : padF n = [] := by unfold padF; rw [← hy, h0]; rfl
      have e2 : bits8 (0#8 ||| bitB b 0) = b :: padF (n + 1) := by
        have e3 : padF (n + 1) = List.replicate 7 false := by
          unfold padF
          rw [show (n + 1) % 8 = 1 by omega]
        rw [e3]
        cases b <;> decide
      rw [e1, e2, List.append_nil, List.append_assoc]
      rfl
    · rw [if_neg h0]
      have hl1 : l.length = ys.length / 8 + 1 := by omega
      obtain ⟨l', c, rfl⟩ : ∃ l' c, l = l' ++ [c] := ⟨l.dropLast, l.getLast (by intro e; rw [e] at hl1; cases hl1), (List.dropLast_concat_getLast _).symm⟩
      have hl2 : l'.length = ys.length / 8 := by rw [List.length_append] at hl1; simpa using hl1
      have hpad : padF n = false :: padF (n + 1) := by
        unfold padF
        rw [← hy]
        obtain ⟨m, hm⟩ : ∃ m, (8 - ys.length % 8) % 8 = m + 1 := ⟨(8 - ys.length % 8) % 8 - 1, by omega⟩
        rw [hm, List.replicate_succ, show (8 - (ys.length + 1) % 8) % 8 = m by omega]
      rw [bytesBits_app, bytesBits_one] at ih
      have h8l : (bytesBits l').length = 8 * (ys.length / 8) := by rw [bytesBits_len, hl2]
      have hck : (bits8 c)[ys.length % 8]? = some false := by
        have e : (bytesBits l' ++ bits8 c)[ys.length]? = some false := by
          rw [ih, List.getElem?_append_right (Nat.le_refl _), Nat.sub_self, hpad]
          rfl
        rw [List.getElem?_append_right (by omega), h8l, show ys.length - 8 * (ys.length / 8) = ys.length % 8 by omega] at e
        exact e
      have hgd : (l' ++ [c]).getD (ys.length / 8) 0 = c := by
        rw [List.getD_eq_getElem?_getD, List.getElem?_append_right (by omega), hl2, Nat.sub_self]
        rfl
      rw [hgd, List.set_append_right _ _ (by omega), hl2, Nat.sub_self, List.set_cons_zero, bytesBits_app, bytesBits_one, bits8_or c b _ (by omega) hck]
      have e4 : bytesBits l' ++ (bits8 c).set (ys.length % 8) b = (bytesBits l' ++ bits8 c).set ys.length b := by
        rw [List.set_append_right _ _ (by omega), h8l, show ys.length - 8 * (ys.length / 8) = ys.length % 8 by omega]
      rw [e4, ih, List.set_append_right _ _ (Nat.le_refl _), Nat.sub_self, hpad, List.set_cons_zero, List.append_assoc]
      rfl
theorem bits_inj {P Q : List B8} (h : bytesBits P = bytesBits Q) : P = Q := by
  have hl : P.length = Q.length := by
    have := congrArg List.length h
    rw [bytesBits_len, bytesBits_len] at this
    omega
  have h1 := rowAt_bytes (bytesBits P) P 0 [] (by simp)
  have h2 := rowAt_bytes (bytesBits Q) Q 0 [] (by simp)
  rw [← h1, ← h2, h, hl]
theorem all_false {z : List Bool} (h : z.all (! ·) = true) : z = List.replicate z.length false := by
  induction z with
  | nil => rfl
  | cons b z ih =>
    rw [List.all_cons, Bool.and_eq_true] at h
    rw [List.length_cons, List.replicate_succ, ← ih h.2]
    cases b
    · rfl
    · exact absurd h.1 (by decide)
theorem pack_of {P : List B8} {B z : List Bool} (h : bytesBits P = B ++ z) (hz : z.all (! ·) = true) (h8 : z.length < 8) : pack B = P := by
  apply bits_inj
  rw [bits_pack _ B rfl, h, all_false hz]
  have hl := congrArg List.length h
  rw [bytesBits_len, List.length_append] at hl
  unfold padF
  rw [show (8 - B.length % 8) % 8 = z.length by omega]
end
section
set_option linter.unusedVariables false
set_option linter.unusedSimpArgs false
set_option maxRecDepth 100000
set_option maxHeartbeats 8000000
open Go
theorem rdAt0 (bs : List Bool) : RdAt bs rd0 bs := ⟨rfl, Nat.zero_le _, rfl⟩
theorem w64_of {x : BitVec 64} (y : BitVec 64) (h : (x.toNat : Int) = (y.toNat : Int)) : x = y := BitVec.eq_of_toNat_eq (by omega)
/-- Of a frame that may be, in numbers. -/
theorem ok_nums {s : FrS} (h : s.ok) : ((0 ≤ s.frm ∧ s.frm ≤ 7) ∧ s.tag.length = 8 ∧ (0 ≤ s.epoch ∧ s.epoch ≤ 65535) ∧ (0 ≤ s.index ∧ s.index ≤ 256) ∧ (0 ≤ s.round ∧ s.round ≤ 1048576) ∧ (0 ≤ s.start ∧ s.start ≤ 1048576) ∧ (0 ≤ s.view ∧ s.view ≤ 255) ∧ 0 ≤ s.stamp ∧ s.stamp ≤ 1099511627776 ∧ s.body.length ≤ 16) ∧
    ((s.kind = 1 ∧ (s.to = 0 ∧ (s.nonce.toNat : Int) = 0) ∧ (s.stamp = 0 ∧ s.start = 0) ∧ s.key.length = 16) ∨ (s.kind = 2 ∧ (s.epoch = 0 ∧ s.index = 0 ∧ s.key.length = 0) ∧ (s.stamp = 0 ∧ s.start = 0) ∧ ((0 ≤ s.to ∧ s.to ≤ 7) ∧ s.to ≠ s.frm) ∧ (s.round = 0 ∧ s.view = 0 ∧ s.body.length = 0)) ∨
      (s.kind = 3 ∧ ((0 ≤ s.to ∧ s.to ≤ 7) ∧ s.to ≠ s.frm) ∧ (s.round = 0 ∧ s.view = 0 ∧ s.body.length = 0) ∧ s.key.length = 16)) := h
theorem nil_of {α : Type} {l : List α} (h : l.length = 0) : l = [] := List.eq_nil_of_length_eq_zero h
theorem read_ok {s : FrS} (h : s.ok) (pad : List Bool) : ∃ p, readF (coreBits s ++ bytesBits s.tag ++ pad) = (s, ⟨p, false⟩) ∧ (coreBits s ++ bytesBits s.tag ++ pad).drop p = pad := by
  obtain ⟨hf, hr⟩ := ok_nums h
  have hnn := s.nonce.isLt
  obtain ⟨kind, frm, to, epoch, start, round, nonce, stamp, view, index, key, body, tag⟩ := s
  dsimp only at hf hr hnn ⊢
  rcases hr with ⟨hk, h2⟩ | ⟨hk, h2⟩ | ⟨hk, h2⟩
  · have r0 := rdAt0 (coreBits ⟨kind, frm, to, epoch, start, round, nonce, stamp, view, index, key, body, tag⟩ ++ bytesBits tag ++ pad)
    generalize hbs : coreBits ⟨kind, frm, to, epoch, start, round, nonce, stamp, view, index, key, body, tag⟩ ++ bytesBits tag ++ pad = bs at *
    have e : bs = iBits kind 4 ++ (iBits frm 4 ++ (iBits epoch 16 ++ (iBits round 24 ++ (iBits view 8 ++ (iBits index 16 ++ (bytesBits key ++ (iBits (body.length : Int) 5 ++ (bytesBits body ++ (bytesBits tag ++ pad))))))))) := by
      rw [← hbs]
      unfold coreBits dataBits headBits
      rw [if_pos hk]
      simp only [pBits, List.append_nil, List.append_assoc]
    have r0' : RdAt bs rd0 (iBits kind 4 ++ (iBits frm 4 ++ (iBits epoch 16 ++ (iBits round 24 ++ (iBits view 8 ++ (iBits index 16 ++ (bytesBits key ++ (iBits (body.length : Int) 5 ++ (bytesBits body ++ (bytesBits tag ++ pad)))))))))) := by rw [← e]; exact r0
    obtain ⟨_, k1, r1⟩ := r0'.num (fit_mk 16 (by decide) (by decide) (by omega) (by omega))
    obtain ⟨_, k2, r2⟩ := r1.num (fit_mk 16 (by decide) (by decide) (by omega) (by omega))
    obtain ⟨_, k3, r3⟩ := r2.num (fit_mk 65536 (by decide) (by decide) (by omega) (by omega))
    obtain ⟨_, k4, r4⟩ := r3.num (fit_mk 16777216 (by decide) (by decide) (by omega) (by omega))
    obtain ⟨_, k5, r5⟩ := r4.num (fit_mk 256 (by decide) (by decide) (by omega) (by omega))
    obtain ⟨_, k6, r6⟩ := r5.num (fit_mk 65536 (by decide) (by decide) (by omega) (by omega))
    obtain ⟨k7, r7⟩ := r6.row
    rw [h2.2.2] at k7 r7
    obtain ⟨_, k8, r8⟩ := r7.num (fit_mk 32 (by decide) (by decide) (by omega) (by omega))
    obtain ⟨k9, r9⟩ := r8.row
    obtain ⟨k10, r10⟩ := r9.row
    rw [hf.2.1] at k10 r10
    have hn : ((((((((rd0.skip bs 4).skip bs 4).skip bs 16).skip bs 24).skip bs 8).skip bs 16).skip bs (8 * 16)).num bs 5).toNat = body.length := by omega
    refine ⟨_, ?_, r10.drop⟩
    unfold readF
    rw [if_pos (by unfold rKind; rw [k1, hk])]
    unfold dataF rd2 rKind rFrm
    dsimp only
    rw [hn, k1, k2, k3, k4, k5, k6, k7, k9, k10]
    congr 1
    · simp only [FrS.mk.injEq, true_and, and_true]
      exact ⟨h2.1.1.symm, h2.2.1.2.symm, w64_of _ (by rw [h2.1.2]; rfl), h2.2.1.1.symm⟩
    · rw [← r10.fine]
  · have r0 := rdAt0 (coreBits ⟨kind, frm, to, epoch, start, round, nonce, stamp, view, index, key, body, tag⟩ ++ bytesBits tag ++ pad)
    generalize hbs : coreBits ⟨kind, frm, to, epoch, start, round, nonce, stamp, view, index, key, body, tag⟩ ++ bytesBits tag ++ pad = bs at *
    have e : bs = iBits kind 4 ++ (iBits frm 4 ++ (iBits to 4 ++ (iBits (nonce.toNat : Int) 64 ++ (bytesBits tag ++ pad)))) := by
      rw [← hbs]
      unfold coreBits pingBits headBits
      rw [if_neg (by show ¬ kind = 1; omega), if_pos hk]
      simp only [pBits, List.append_nil, List.append_assoc]
    have r0' : RdAt bs rd0 (iBits kind 4 ++ (iBits frm 4 ++ (iBits to 4 ++ (iBits (nonce.toNat : Int) 64 ++ (bytesBits tag ++ pad))))) := by rw [← e]; exact r0
    obtain ⟨_, k1, r1⟩ := r0'.num (fit_mk 16 (by decide) (by decide) (by omega) (by omega))
    obtain ⟨_, k2, r2⟩ := r1.num (fit_mk 16 (by decide) (by decide) (by omega) (by omega))
    obtain ⟨_, k3, r3⟩ := r2.num (fit_mk 16 (by decide) (by decide) (by omega) (by omega))
    obtain ⟨_, k4, r4⟩ := r3.num (fit_mk 18446744073709551616 (by decide) (by decide) (by omega) (by omega))
    obtain ⟨k10, r10⟩ := r4.row
    rw [hf.2.1] at k10 r10
    refine ⟨_, ?_, r10.drop⟩
    unfold readF
    rw [if_neg (by unfold rKind; rw [k1, hk]; decide), if_pos (by unfold rKind; rw [k1, hk])]
    unfold pingF rd2 rKind rFrm
    dsimp only
    rw [k1, k2, k3, w64_of nonce k4, k10]
    congr 1
    · simp only [FrS.mk.injEq, true_and, and_true]
      exact ⟨h2.1.1.symm, h2.2.1.2.symm, h2.2.2.2.1.symm, h2.2.1.1.symm, h2.2.2.2.2.1.symm, h2.1.2.1.symm, (nil_of h2.1.2.2).symm, (nil_of h2.2.2.2.2.2).symm⟩
    · rw [← r10.fine]
  · have r0 := rdAt0 (coreBits ⟨kind, frm, to, epoch, start, round, nonce, stamp, view, index, key, body, tag⟩ ++ bytesBits tag ++ pad)
    generalize hbs : coreBits ⟨kind, frm, to, epoch, start, round, nonce, stamp, view, index, key, body, tag⟩ ++ bytesBits tag ++ pad = bs at *
    have e : bs = iBits kind 4 ++ (iBits frm 4 ++ (iBits to 4 ++ (iBits (nonce.toNat : Int) 64 ++ (iBits stamp 48 ++ (iBits epoch 16 ++ (iBits start 24 ++ (iBits index 16 ++ (bytesBits key ++ (bytesBits tag ++ pad))))))))) := by
      rw [← hbs]
      unfold coreBits pongBits pingBits headBits
      rw [if_neg (by show ¬ kind = 1; omega), if_neg (by show ¬ kind = 2; omega)]
      simp only [pBits, List.append_nil, List.append_assoc]
    have r0' : RdAt bs rd0 (iBits kind 4 ++ (iBits frm 4 ++ (iBits to 4 ++ (iBits (nonce.toNat : Int) 64 ++ (iBits stamp 48 ++ (iBits epoch 16 ++ (iBits start 24 ++ (iBits index 16 ++ (bytesBits key ++ (bytesBits tag ++ pad)))))))))) := by rw [← e]; exact r0
    obtain ⟨_, k1, r1⟩ := r0'.num (fit_mk 16 (by decide) (by decide) (by omega) (by omega))
    obtain ⟨_, k2, r2⟩ := r1.num (fit_mk 16 (by decide) (by decide) (by omega) (by omega))
    obtain ⟨_, k3, r3⟩ := r2.num (fit_mk 16 (by decide) (by decide) (by omega) (by omega))
    obtain ⟨_, k4, r4⟩ := r3.num (fit_mk 18446744073709551616 (by decide) (by decide) (by omega) (by omega))
    obtain ⟨_, k5, r5⟩ := r4.num (fit_mk 281474976710656 (by decide) (by decide) (by omega) (by omega))
    obtain ⟨_, k6, r6⟩ := r5.num (fit_mk 65536 (by decide) (by decide) (by omega) (by omega))
    obtain ⟨_, k7, r7⟩ := r6.num (fit_mk 16777216 (by decide) (by decide) (by omega) (by omega))
    obtain ⟨_, k8, r8⟩ := r7.num (fit_mk 65536 (by decide) (by decide) (by omega) (by omega))
    obtain ⟨k9, r9⟩ := r8.row
    rw [h2.2.2] at k9 r9
    obtain ⟨k10, r10⟩ := r9.row
    rw [hf.2.1] at k10 r10
    refine ⟨_, ?_, r10.drop⟩
    unfold readF
    rw [if_neg (by unfold rKind; rw [k1, hk]; decide), if_neg (by unfold rKind; rw [k1, hk]; decide), if_pos (by unfold rKind; rw [k1, hk])]
    unfold pongF rd2 rKind rFrm
    dsimp only
    rw [k1, k2, k3, w64_of nonce k4, k5, k6, k7, k8, k9, k10]
    congr 1
    · simp only [FrS.mk.injEq, true_and, and_true]
      exact ⟨h2.2.1.1.symm, h2.2.1.2.1.symm, (nil_of h2.2.1.2.2).symm⟩
    · rw [← r10.fine]
end
section
set_option linter.unusedVariables false
set_option linter.unusedSimpArgs false
set_option maxRecDepth 100000
set_option maxHeartbeats 8000000
open Go
theorem padF_len (n : Nat) : (padF n).length < 8 := by unfold padF; rw [List.length_replicate]; omega
theorem padF_all (n : Nat) : (padF n).all (! ·) = true := by
  unfold padF
  rw [List.all_eq_true]
  intro x hx
  rw [(List.mem_replicate.1 hx).2]
  rfl
theorem take_fix (P : List B8) : (fixB P).take ((fixB P).length - 3) = P := by
  have hl := fixB_len P
  unfold fixB at hl ⊢
  exact take_len (by omega)
/-- A frame's bytes are the frame. -/
theorem get_frame {s : FrS} (h : s.ok) : getX (frameBytes s) = (s, 0) := by
  obtain ⟨P, hP⟩ : ∃ P, P = pack (coreBits s ++ bytesBits s.tag) := ⟨_, rfl⟩
  have hfb : frameBytes s = fixB P := by rw [hP]; rfl
  have hl := fixB_len P
  have hrest : restB (fixB P) = coreBits s ++ bytesBits s.tag ++ padF (coreBits s ++ bytesBits s.tag).length := by
    unfold restB
    rw [take_fix, hP, bits_pack _ _ rfl]
  obtain ⟨p, hr, hd⟩ := read_ok h (padF (coreBits s ++ bytesBits s.tag).length)
  have hg : goodB (fixB P) = true := goodB_iff.2 ⟨by omega, by rw [take_fix]⟩
  have hfine : fineB (fixB P) := by
    unfold fineB
    rw [hrest, hr]
    refine ⟨rfl, ?_, h⟩
    unfold endOk
    rw [hd, padF_all, Bool.and_true, decide_eq_true_eq, ← List.length_drop, hd]
    exact padF_len _
  rw [hfb]
  unfold getX
  rw [if_neg (by omega), if_pos hg, if_pos hfine, hrest, hr]
theorem numOf_get : ∀ (n : Nat) (xs : List Bool), xs.length = n → n ≤ 64 → ∀ j, j < n → xs[j]? = some ((numOf xs).getLsbD (n - 1 - j))
  | 0, xs, _, _, j, hj => absurd hj (Nat.not_lt_zero j)
  | n + 1, xs, h, hn, j, hj => by
    obtain ⟨ys, b, rfl⟩ : ∃ ys b, xs = ys ++ [b] := ⟨xs.dropLast, xs.getLast (by intro e; rw [e] at h; cases h), (List.dropLast_concat_getLast _).symm⟩
    have hy : ys.length = n := by rw [List.length_append] at h; simpa using h
    have ih := numOf_get n ys hy (by omega)
    rw [numOf_end, BitVec.getLsbD_or, BitVec.getLsbD_shiftLeft]
    by_cases hjn : j = n
    · subst hjn
      rw [List.getElem?_append_right (by omega), hy, Nat.sub_self, show j + 1 - 1 - j = 0 by omega]
      cases b <;> simp
    · have e1 : (if b then 1#64 else 0#64 : BitVec 64).getLsbD (n + 1 - 1 - j) = false := by
        obtain ⟨m, hm⟩ : ∃ m, n + 1 - 1 - j = m + 1 := ⟨n - 1 - j, by omega⟩
        rw [hm]
        cases b <;> simp [BitVec.getLsbD_one]
      rw [List.getElem?_append_left (by omega), ih j (by omega), e1, Bool.or_false, show n + 1 - 1 - j - 1 = n - 1 - j by omega]
      congr 1
      simp
      omega
theorem bits_num {v : BitVec 64} {xs : List Bool} {w : Nat} (hw : w ≤ 64) (hx : xs.length = w) (hv : ∀ i, i < w → v.getLsbD i = (numOf xs).getLsbD i) : numBits v w = xs := by
  apply List.ext_getElem?
  intro j
  unfold numBits
  by_cases hj : j < w
  · rw [topBits_get _ _ _ _ hj, numOf_get w xs hx hw j hj, hv _ (by omega)]
  · rw [List.getElem?_eq_none (by rw [topBits_len]; omega), List.getElem?_eq_none (by omega)]
theorem iBits_num {xs : List Bool} {w : Nat} (hw : w ≤ 64) (hx : xs.length = w) : iBits ((numOf xs).toNat : Int) w = xs := by
  unfold iBits
  refine bits_num hw hx (fun i _ => ?_)
  rw [show BitVec.ofInt 64 ((numOf xs).toNat : Int) = numOf xs by rw [BitVec.ofInt_natCast, BitVec.ofNat_toNat, BitVec.setWidth_eq]]
theorem skip_inv {bs : List Bool} {s : Rd} {w : Nat} (h : (s.skip bs w).lost = false) : s.lost = false ∧ s.at_ + w ≤ bs.length ∧ (s.skip bs w).at_ = s.at_ + w := by
  unfold Rd.skip at h ⊢
  split at h
  · rename_i h1
    rw [if_pos h1]
    exact ⟨h, h1, rfl⟩
  · cases h
theorem take_more (bs : List Bool) (p w : Nat) : bs.take (p + w) = bs.take p ++ (bs.drop p).take w := by rw [List.take_add]
theorem num_inv {bs : List Bool} {s : Rd} {w : Nat} (hw : w ≤ 64) (h : (s.skip bs w).lost = false) : s.lost = false ∧ bs.take (s.skip bs w).at_ = bs.take s.at_ ++ iBits ((s.num bs w).toNat : Int) w := by
  obtain ⟨h1, h2, h3⟩ := skip_inv h
  refine ⟨h1, ?_⟩
  unfold Rd.num
  rw [h3, take_more, if_pos h2, iBits_num hw (by rw [List.length_take, List.length_drop]; omega)]
theorem bytes_rowAt (bs : List Bool) (p : Nat) : ∀ n, p + 8 * n ≤ bs.length → bytesBits (rowAt bs p n) = (bs.drop p).take (8 * n)
  | 0, _ => by unfold rowAt; rfl
  | n + 1, h => by
    have hl : ((bs.drop (p + 8 * n)).take 8).length = 8 := by rw [List.length_take, List.length_drop]; omega
    rw [rowAt_next, bytesBits_app, bytes_rowAt bs p n (by omega), bytesBits_one, show 8 * (n + 1) = 8 * n + 8 by omega, take_more, List.drop_drop]
    congr 1
    unfold bits8
    refine bits_num (by decide) hl (fun i hi => ?_)
    simp [hi]
    omega
theorem row_inv {bs : List Bool} {s : Rd} {n : Nat} (h : (s.skip bs (8 * n)).lost = false) : s.lost = false ∧ (s.row bs n).length = n ∧ bs.take (s.skip bs (8 * n)).at_ = bs.take s.at_ ++ bytesBits (s.row bs n) := by
  obtain ⟨h1, h2, h3⟩ := skip_inv h
  unfold Rd.row
  rw [h3, take_more, if_pos h2, bytes_rowAt bs _ n h2, rowAt_len]
  exact ⟨h1, rfl, rfl⟩
/-- What was read without loss is what would be written. -/
theorem read_inv {bs : List Bool} (h : (readF bs).2.lost = false) : bs.take (readF bs).2.at_ = coreBits (readF bs).1 ++ bytesBits (readF bs).1.tag := by
  have z : bs.take rd0.at_ = [] := rfl
  unfold readF at h ⊢
  by_cases k1 : rKind bs = 1
  · rw [if_pos k1] at h ⊢
    have ec : ∀ (fr to ep st ro : Int) (no : BitVec 64) (sp vi ix : Int) (ke bo ta : List B8), coreBits ⟨rKind bs, fr, to, ep, st, ro, no, sp, vi, ix, ke, bo, ta⟩ = dataBits ⟨rKind bs, fr, to, ep, st, ro, no, sp, vi, ix, ke, bo, ta⟩ := by
      intros; unfold coreBits; rw [if_pos k1]
    unfold dataF rd2 at h ⊢
    dsimp only at h ⊢
    rw [ec]
    unfold dataBits headBits
    dsimp only
    obtain ⟨h, _, e10⟩ := row_inv h
    obtain ⟨h, hn, e9⟩ := row_inv h
    obtain ⟨h, e8⟩ := num_inv (by decide) h
    obtain ⟨h, _, e7⟩ := row_inv h
    obtain ⟨h, e6⟩ := num_inv (by decide) h
    obtain ⟨h, e5⟩ := num_inv (by decide) h
    obtain ⟨h, e4⟩ := num_inv (by decide) h
    obtain ⟨h, e3⟩ := num_inv (by decide) h
    obtain ⟨h, e2⟩ := num_inv (by decide) h
    obtain ⟨h, e1⟩ := num_inv (by decide) h
    rw [e10, e9, e8, e7, e6, e5, e4, e3, e2, e1, z, hn]
    unfold rKind rFrm
    simp only [pBits, List.append_nil, List.nil_append, List.append_assoc]
  by_cases k2 : rKind bs = 2
  · rw [if_neg k1, if_pos k2] at h ⊢
    have ec : ∀ (fr to ep st ro : Int) (no : BitVec 64) (sp vi ix : Int) (ke bo ta : List B8), coreBits ⟨rKind bs, fr, to, ep, st, ro, no, sp, vi, ix, ke, bo, ta⟩ = pingBits ⟨rKind bs, fr, to, ep, st, ro, no, sp, vi, ix, ke, bo, ta⟩ := by
      intros; unfold coreBits; rw [if_neg k1, if_pos k2]
    unfold pingF rd2 at h ⊢
    dsimp only at h ⊢
    rw [ec]
    unfold pingBits headBits
    dsimp only
    obtain ⟨h, _, e5⟩ := row_inv h
    obtain ⟨h, e4⟩ := num_inv (by decide) h
    obtain ⟨h, e3⟩ := num_inv (by decide) h
    obtain ⟨h, e2⟩ := num_inv (by decide) h
    obtain ⟨h, e1⟩ := num_inv (by decide) h
    rw [e5, e4, e3, e2, e1, z]
    unfold rKind rFrm
    simp only [pBits, List.append_nil, List.nil_append, List.append_assoc]
  by_cases k3 : rKind bs = 3
  · rw [if_neg k1, if_neg k2, if_pos k3] at h ⊢
    have ec : ∀ (fr to ep st ro : Int) (no : BitVec 64) (sp vi ix : Int) (ke bo ta : List B8), coreBits ⟨rKind bs, fr, to, ep, st, ro, no, sp, vi, ix, ke, bo, ta⟩ = pongBits ⟨rKind bs, fr, to, ep, st, ro, no, sp, vi, ix, ke, bo, ta⟩ := by
      intros; unfold coreBits; rw [if_neg k1, if_neg k2]
    unfold pongF rd2 at h ⊢
    dsimp only at h ⊢
    rw [ec]
    unfold pongBits pingBits headBits
    dsimp only
    obtain ⟨h, _, e10⟩ := row_inv h
    obtain ⟨h, _, e9⟩ := row_inv h
    obtain ⟨h, e8⟩ := num_inv (by decide) h
    obtain ⟨h, e7⟩ := num_inv (by decide) h
    obtain ⟨h, e6⟩ := num_inv (by decide) h
    obtain ⟨h, e5⟩ := num_inv (by decide) h
    obtain ⟨h, e4⟩ := num_inv (by decide) h
    obtain ⟨h, e3⟩ := num_inv (by decide) h
    obtain ⟨h, e2⟩ := num_inv (by decide) h
    obtain ⟨h, e1⟩ := num_inv (by decide) h
    rw [e10, e9, e8, e7, e6, e5, e4, e3, e2, e1, z]
    unfold rKind rFrm
    simp only [pBits, List.append_nil, List.nil_append, List.append_assoc]
  · rw [if_neg k1, if_neg k2, if_neg k3] at h
    exfalso
    unfold badF rdLost at h
    dsimp only at h
    exact Bool.noConfusion (skip_inv h).1
/-- Bytes that are a frame's are that frame's bytes. -/
theorem put_get {l : List B8} (h3 : 3 ≤ l.length) (hg : goodB l = true) (hf : fineB l) : frameBytes (readF (restB l)).1 = l := by
  obtain ⟨h1, h2, _⟩ := hf
  have hi := read_inv h1
  unfold endOk at h2
  rw [Bool.and_eq_true, decide_eq_true_eq] at h2
  have hp := pack_of (P := l.take (l.length - 3)) (B := (restB l).take (readF (restB l)).2.at_) (z := (restB l).drop (readF (restB l)).2.at_) (by rw [List.take_append_drop]; rfl) h2.2 (by rw [List.length_drop]; exact h2.1)
  unfold frameBytes
  rw [← hi, hp]
  exact (goodB_iff.1 hg).2
end
end Go.Proofs.YtnlheljpagpiiaaGreat
