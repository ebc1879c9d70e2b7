/-
  Frames: numbers of a frame, written one behind the other, in the program; every input. Frames: all of a frame but its tag, written; the program; every input. Frames: all of a frame but its tag; a frame's bytes; the program; every input. Frames: what a tag is made of; a frame's bytes; the program; every input.
-/
import Derived.Test.YtnlheljpagpiiaaGreatFb
namespace Go.Proofs.YtnlheljpagpiiaaGreat
section
set_option linter.unusedVariables false
set_option linter.unusedSimpArgs false
set_option maxRecDepth 100000
set_option maxHeartbeats 8000000
open Go
attribute [local irreducible] bitsOf shlOf shrOf
/-- A number's bits. -/
def iBits (x : Int) (w : Nat) : List Bool := numBits (BitVec.ofInt 64 x) w
/-- Numbers' bits, each with its width. -/
def pBits : List (Int × Nat) → List Bool
  | [] => []
  | p :: r => iBits p.1 p.2 ++ pBits r
def wSum : List (Int × Nat) → Nat
  | [] => 0
  | p :: r => p.2 + wSum r
def flatU : List (Int × Nat) → List Value
  | [] => []
  | p :: r => .int .u64 p.1 :: .int .u64 (p.2 : Int) :: flatU r
theorem iBits_len (x : Int) (w : Nat) : (iBits x w).length = w := topBits_len _ _ _
theorem pBits_len : ∀ ps : List (Int × Nat), (pBits ps).length = wSum ps
  | [] => rfl
  | p :: r => by rw [pBits, List.length_append, iBits_len, pBits_len r]; rfl
theorem pBits_app : ∀ ps qs : List (Int × Nat), pBits (ps ++ qs) = pBits ps ++ pBits qs
  | [], qs => rfl
  | p :: r, qs => by simp only [List.cons_append, pBits, pBits_app r qs, List.append_assoc]
theorem wSum_take : ∀ (ps : List (Int × Nat)) (i : Nat), wSum (ps.take i) ≤ wSum ps
  | [], i => by simp
  | p :: r, 0 => Nat.zero_le _
  | p :: r, i + 1 => by
    have := wSum_take r i
    show p.2 + wSum (r.take i) ≤ p.2 + wSum r
    omega
abbrev fitsIn (p : Int × Nat) : Prop := p.2 ≤ 64 ∧ 0 ≤ p.1 ∧ p.1 < 2 ^ p.2
theorem ofInt_nat {x : Int} (h0 : 0 ≤ x) (h1 : x < 18446744073709551616) : ((BitVec.ofInt 64 x).toNat : Int) = x := by
  rw [BitVec.toNat_ofInt]
  simp
  omega
theorem fits_lt {x : Int} {w : Nat} (hw : w ≤ 64) (h : x < 2 ^ w) : x < 18446744073709551616 := by
  have : (2 : Int) ^ w ≤ 2 ^ 64 := by exact_mod_cast Nat.pow_le_pow_right (by decide) hw
  have e : (2 : Int) ^ 64 = 18446744073709551616 := by decide
  omega
theorem shr_ofInt {x : Int} {w : Nat} (hw : w ≤ 64) (h0 : 0 ≤ x) (h : x < 2 ^ w) : BitVec.ofInt 64 x >>> w = 0#64 := by
  apply BitVec.eq_of_toNat_eq
  rw [BitVec.toNat_ushiftRight, Nat.shiftRight_eq_div_pow]
  have e := ofInt_nat h0 (fits_lt hw h)
  have h2 : (BitVec.ofInt 64 x).toNat < 2 ^ w := by
    have : (((BitVec.ofInt 64 x).toNat : Nat) : Int) < ((2 ^ w : Nat) : Int) := by rw [e]; exact_mod_cast h
    exact_mod_cast this
  rw [Nat.div_eq_of_lt h2]
  rfl
theorem flatU_at : ∀ (ps : List (Int × Nat)) (i : Nat), i < ps.length → (flatU ps)[2 * i]? = some (.int .u64 (ps.getD i (0, 0)).1) ∧ (flatU ps)[2 * i + 1]? = some (.int .u64 ((ps.getD i (0, 0)).2 : Int))
  | [], i, h => absurd h (Nat.not_lt_zero i)
  | p :: r, 0, _ => ⟨rfl, rfl⟩
  | p :: r, i + 1, h => by
    have := flatU_at r i (by simpa using h)
    exact this
theorem cells_flatU {G : Cx} {hs : Hp} {b i : Nat} {ps : List (Int × Nat)} (h : At G.w0 (some ⟨b, 0, none⟩) (flatU ps)) (hd : b ∉ G.fp) (hi : i < ps.length) : [Value.int .u64 (ps.getD i (0, 0)).1, .int .u64 ((ps.getD i (0, 0)).2 : Int)].length = 2 ∧ G.cellsAre hs (Addr.add ⟨b, 0, none⟩ (i * 2)) [.int .u64 (ps.getD i (0, 0)).1, .int .u64 ((ps.getD i (0, 0)).2 : Int)] := by
  refine ⟨rfl, fun j v hv => ?_⟩
  obtain ⟨h1, h2⟩ := flatU_at ps i hi
  rw [add_plain, add_plain, Nat.zero_add]
  match j, hv with
  | 0, hv => cases hv; rw [Nat.mul_comm] at h1; exact cell_known h hd h1
  | 1, hv => cases hv; rw [Nat.mul_comm] at h2; exact cell_known h hd h2
/-- The block of a writer that is handed about. -/
abbrev bxE (x wp : Nat) : Ent := ⟨x, [.pointer (some ⟨wp, 0, none⟩)], 102, (0, 0)⟩
theorem nums_m (wp : Nat) (A : Option Addr) (C : Nat) (E : Hp) (bs : List Bool) (ps : List (Int × Nat)) (hps : ∀ p ∈ ps, fitsIn p) (hn : ps.length ≤ 1000) (htot : bs.length + wSum ps ≤ 8192) (pb n c : Nat) (hl : ps.length = n) (hO : Own A (pack bs) C E) (w : World) (hp : At w (some ⟨pb, 0, none⟩) (flatU ps)) (hd : pb ∉ ids (wobj wp A C E bs bs.length))
    (hw : St ⟨Tryz.prog, w, ids (wobj wp A C E bs bs.length)⟩ (wobj wp A C E bs bs.length) w) :
    Mut Tryz.prog 89 [.agg #[.pointer (some ⟨wp, 0, none⟩)], .slice (some ⟨pb, 0, none⟩) n c] w (wobj wp A C E bs bs.length) fun v hs2 => ∃ H, List.Sublist H hs2 ∧ ∃ A' C' E', Own A' (pack (bs ++ pBits ps)) C' E' ∧ H = wobj wp A' C' E' (bs ++ pBits ps) (bs ++ pBits ps).length := by
  subst hl
  refine mut_vc tab_ok Tryz.func89 rfl rfl hw ?_
  repeat' ((try (conv => whnf)); (first | refine Need.au ?_ | (refine Split.mk (fun hsplit => ?_) (fun hsplit => ?_) <;> (try simp only [List.cons.injEq, and_true, true_and, not_true_eq_false, not_false_eq_true] at hsplit) <;> try (exfalso; omega)) | refine Pick.au ?_ | refine store_au ?_ | refine Any.mk (fun _ => ?_) | refine Both.mk ?_ ?_)); all_goals (try (conv => whnf))
  rename_i bx
  refine LoopVC.perm (List.perm_append_singleton _ _).symm ?_
  refine LoopVC.mk (fun m env hs => ∃ (i : Nat) (xi : Int) (A : Option Addr) (C : Nat) (E : Hp), xi = i ∧ i + m = ps.length ∧ Own A (pack (bs ++ pBits (ps.take i))) C E ∧ env = [(2, .pointer (some ⟨bx, 0, none⟩)), (6, .slice (some ⟨pb, 0, none⟩) ps.length c), (7, .int .i64 ps.length), (8, .int .i64 xi)] ∧ hs = wobj wp A C E (bs ++ pBits (ps.take i)) (bs ++ pBits (ps.take i)).length ++ [bxE bx wp]) ps.length
    (Weak.mk (Sub.cons rfl (Sub.cons rfl (Sub.cons rfl (Sub.cons rfl Sub.nil)))) (by rw [List.take_zero, pBits, List.append_nil]; exact List.Sublist.refl _) ⟨0, 0, A, C, E, by omega, by omega, by rw [List.take_zero, pBits, List.append_nil]; exact hO, rfl, rfl⟩) ?_
  rintro m env hs ⟨i, xi, A', C', E', hxi, hj, hO', rfl, rfl⟩
  have htl := pBits_len (ps.take i)
  have htw := wSum_take ps i
  have hbl : (bs ++ pBits (ps.take i)).length = bs.length + wSum (ps.take i) := by rw [List.length_append, htl]
  by_cases hi : i < ps.length
  · have hxn : xi.toNat = i := by omega
    have hmem : ps.getD i (0, 0) ∈ ps := by rw [List.getD_eq_getElem?_getD, List.getElem?_eq_getElem hi]; exact List.getElem_mem hi
    have htk : ps.take (i + 1) = ps.take i ++ [ps.getD i (0, 0)] := by rw [List.take_succ_eq_append_getElem hi, List.getD_eq_getElem?_getD, List.getElem?_eq_getElem hi]; rfl
    have hw1 := wSum_take ps (i + 1)
    have e : bs ++ pBits (ps.take (i + 1)) = bs ++ pBits (ps.take i) ++ numBits (BitVec.ofInt 64 (ps.getD i (0, 0)).1) (ps.getD i (0, 0)).2 := by
      rw [htk, pBits_app, List.append_assoc]
      congr 1
      simp [pBits, iBits]
    have hbl1 : (bs ++ pBits (ps.take (i + 1))).length = bs.length + wSum (ps.take (i + 1)) := by rw [List.length_append, pBits_len]
    rw [e, List.length_append, hbl, numBits, topBits_len] at hbl1
    obtain ⟨hq1, hq2, hq3⟩ := hps _ hmem
    have hcf := fun (hs : Hp) => cells_flatU (G := ⟨Tryz.prog, w, ids (wobj wp A C E bs bs.length)⟩) (hs := hs) hp hd hi
    generalize ps.getD i (0, 0) = p at *
    obtain ⟨x, wd⟩ := p
    dsimp only at *
    have hx := ofInt_nat hq2 (fits_lt hq1 hq3)
    have hsh := shr_ofInt hq1 hq2 hq3
    rw [← hx] at hcf
    generalize BitVec.ofInt 64 x = xv at *
    generalize bs ++ pBits (ps.take i) = bi at *
    repeat' ((try (conv => whnf)); (first | (rw [hxn]; refine Pick.mk _ (hcf _) ?_) | refine Pick.mk _ (cellIs_at (List.Mem.tail _ (List.mem_append_right _ (List.Mem.head _))) rfl) ?_ | (refine CallVC.mutT (wobj wp A' C' E' bi bi.length) [_, bxE bx wp] List.perm_middle.symm (fun w2 h2 h3 => put_m wp A' C' E' bi bi.length xv wd rfl hq1 (fun _ => hsh) (by omega) hO' w2 h3) ?_; rintro v H ⟨A3, C3, E3, rfl, hO3, rfl⟩) | refine Need.au ?_ | (refine Split.mk (fun hsplit => ?_) (fun hsplit => ?_) <;> (try simp only [List.cons.injEq, and_true, true_and, not_true_eq_false, not_false_eq_true] at hsplit) <;> try (exfalso; omega)) | refine Pick.au ?_ | refine store_au ?_ | refine Any.mk (fun _ => ?_) | refine Both.mk ?_ ?_)); all_goals (try (conv => whnf))
    exact again (m - 1) (by omega) (Sub.cons rfl (Sub.cons rfl (Sub.cons rfl (Sub.cons rfl Sub.nil)))) (by rw [e, show (((bi ++ numBits xv wd).length : Nat) : Int) = (bi.length : Int) + wd by rw [List.length_append, numBits, topBits_len]; omega]; exact List.Sublist.append_left (List.Sublist.cons _ (List.Sublist.refl _)) _) ⟨i + 1, _, A3, C3, E3, by omega, by omega, by rw [e]; exact hO3, rfl, rfl⟩
  · obtain rfl : i = ps.length := by omega
    rw [List.take_length] at hO' ⊢
    repeat' ((try (conv => whnf)); (first | refine Need.au ?_ | (refine Split.mk (fun hsplit => ?_) (fun hsplit => ?_) <;> (try simp only [List.cons.injEq, and_true, true_and, not_true_eq_false, not_false_eq_true] at hsplit) <;> try (exfalso; omega)) | refine Pick.au ?_ | refine store_au ?_ | refine Any.mk (fun _ => ?_) | refine Both.mk ?_ ?_)); all_goals (try (conv => whnf))
    exact Done.mk ⟨_, List.sublist_append_left _ _, A', C', E', hO', rfl⟩
end
section
set_option linter.unusedVariables false
set_option linter.unusedSimpArgs false
set_option maxRecDepth 100000
set_option maxHeartbeats 8000000
open Go
attribute [local irreducible] bitsOf shlOf shrOf
/-- A frame, as numbers and rows of bytes. -/
structure FrS where
  kind : Int
  frm : Int
  to : Int
  epoch : Int
  start : Int
  round : Int
  nonce : BitVec 64
  stamp : Int
  view : Int
  index : Int
  key : List B8
  body : List B8
  tag : List B8
abbrev Fr.s (f : Fr) : FrS := ⟨f.kind, f.frm, f.to, f.epoch, f.start, f.round, f.nonce, f.stamp, f.view, f.index, f.key.l, f.body.l, f.tag.l⟩
/-- A writer's bytes, and the writer. -/
abbrev eB (b : Nat) (bs : List Bool) (r : List Value) (fr : Nat × Nat) : Ent := ⟨b, (pack bs).map b8 ++ r, 5, fr⟩
abbrev eW (wp b : Nat) (bs : List Bool) (r : List Value) : Ent := wE wp (some ⟨b, 0, none⟩) (pack bs).length ((pack bs).map b8 ++ r).length bs.length
theorem own_isRow {A : Option Addr} {bs : List Bool} {C : Nat} {E : Hp} (h : Own A (pack bs) C E) (h0 : bs ≠ []) : ∃ b r fr, Soft fr ((pack bs).map b8 ++ r).length ∧ A = some ⟨b, 0, none⟩ ∧ C = ((pack bs).map b8 ++ r).length ∧ E = [eB b bs r fr] := by
  have hl := pack_len bs
  unfold eB
  generalize pack bs = l at *
  cases h with
  | none =>
    exfalso
    apply h0
    apply List.eq_nil_of_length_eq_zero
    rw [List.length_nil] at hl
    omega
  | row b _ r fr hf => exact ⟨b, r, fr, hf, rfl, rfl, rfl⟩
section
variable {G : Cx} {hs : Hp}
theorem apart_rest {w : World} {pre rest : Hp} (hw : St G hs w) (hp : hs.Perm (pre ++ rest)) {e : Ent} (he : e ∈ rest) : e.b ∉ ids pre := by
  have h := (hw.perm hp).nodup
  rw [List.map_append] at h
  exact fun hm => (List.nodup_append.1 h).2.2 _ hm _ (List.mem_map_of_mem he) rfl
theorem At.news {w : World} {a : Addr} {xs : List Value} (h : At G.w0 (some a) xs) (hx : xs ≠ []) (hd : a.block ∉ G.fp) (hw : St G hs w) {pre rest : Hp} (hp : hs.Perm (pre ++ rest)) : a.block ∉ ids pre := by
  intro hm
  obtain ⟨e, he, hb⟩ := List.mem_map.1 hm
  rcases (hw.perm hp).new e (List.mem_append_left _ he) with h1 | h1
  · have := h.lt hx
    omega
  · exact hd (hb ▸ h1)
theorem CallVC.newW {K : Value → Hp → Prop} (hP : G.P = Tryz.prog) (hk : ∀ wp, K (.pointer (some ⟨wp, 0, none⟩)) (wE wp none 0 0 0 :: hs)) : CallVC G hs 88 [] K :=
  CallVC.of (fun w _ => hP ▸ newwriter_r w) fun v hs2 ⟨wp, h1, h2⟩ => by subst h1 h2; exact hk wp
theorem CallVC.nums0 {K : Value → Hp → Prop} {wp pb n c : Nat} {ps : List (Int × Nat)} {t : TypeId} {fr0 : Nat × Nat} {r1 : Hp} (hP : G.P = Tryz.prog) (h1 : Take (wE wp none 0 0 0) hs r1) (hp : (⟨pb, flatU ps, t, fr0⟩ : Ent) ∈ r1) (hl : ps.length = n) (hn : ps.length ≤ 1000) (h0 : pBits ps ≠ []) (hps : ∀ p ∈ ps, fitsIn p) (htot : wSum ps ≤ 8192)
    (hk : ∀ v b r fr, Soft fr ((pack (pBits ps)).map b8 ++ r).length → K v (eB b (pBits ps) r fr :: eW wp b (pBits ps) r :: r1)) : CallVC G hs 89 [.agg #[.pointer (some ⟨wp, 0, none⟩)], .slice (some ⟨pb, 0, none⟩) n c] K := by
  have hpm : hs.Perm (wobj wp none 0 [] [] ([] : List Bool).length ++ r1) := h1.perm
  refine CallVC.mutT (wobj wp none 0 [] [] ([] : List Bool).length) r1 hpm (fun w2 h2 h3 => hP ▸ nums_m wp none 0 [] [] ps hps hn (by simpa using htot) pb n c hl Own.none w2 (at_in (hpm.mem_iff.2 (List.mem_append_right _ hp)) h2) (apart_rest h2 hpm hp) (hP ▸ h3)) ?_
  rintro v H ⟨A', C', E', hO, rfl⟩
  rw [List.nil_append] at hO ⊢
  obtain ⟨b, r, fr, hf, rfl, rfl, rfl⟩ := own_isRow hO h0
  exact hk v b r fr hf
theorem CallVC.numsW {K : Value → Hp → Prop} {wp b : Nat} {bs : List Bool} {r : List Value} {fr : Nat × Nat} {pb n c : Nat} {ps : List (Int × Nat)} {t : TypeId} {fr0 : Nat × Nat} {r1 r2 : Hp} (hP : G.P = Tryz.prog) (h1 : Take (eB b bs r fr) hs r1) (h2 : Take (eW wp b bs r) r1 r2) (hf : Soft fr ((pack bs).map b8 ++ r).length) (hp : (⟨pb, flatU ps, t, fr0⟩ : Ent) ∈ r2) (hl : ps.length = n) (hn : ps.length ≤ 1000) (h0 : bs ++ pBits ps ≠ []) (hps : ∀ p ∈ ps, fitsIn p) (htot : bs.length + wSum ps ≤ 8192)
    (hk : ∀ v b r fr, Soft fr ((pack (bs ++ pBits ps)).map b8 ++ r).length → K v (eB b (bs ++ pBits ps) r fr :: eW wp b (bs ++ pBits ps) r :: r2)) : CallVC G hs 89 [.agg #[.pointer (some ⟨wp, 0, none⟩)], .slice (some ⟨pb, 0, none⟩) n c] K := by
  have hpm : hs.Perm (wobj wp (some ⟨b, 0, none⟩) ((pack bs).map b8 ++ r).length [eB b bs r fr] bs bs.length ++ r2) := h1.perm.trans (List.Perm.cons _ h2.perm)
  refine CallVC.mutT (wobj wp (some ⟨b, 0, none⟩) ((pack bs).map b8 ++ r).length [eB b bs r fr] bs bs.length) r2 hpm (fun w2 h2 h3 => hP ▸ nums_m wp _ _ [eB b bs r fr] bs ps hps hn htot pb n c hl (Own.row b _ r fr hf) w2 (at_in (hpm.mem_iff.2 (List.mem_append_right _ hp)) h2) (apart_rest h2 hpm hp) (hP ▸ h3)) ?_
  rintro v H ⟨A', C', E', hO, rfl⟩
  obtain ⟨b, r, fr, hf, rfl, rfl, rfl⟩ := own_isRow hO h0
  exact hk v b r fr hf
theorem CallVC.bytesW {K : Value → Hp → Prop} {wp b : Nat} {bs : List Bool} {r : List Value} {fr : Nat × Nat} {B : Option Addr} {l : List B8} {cb : Nat} {r1 r2 : Hp} (hP : G.P = Tryz.prog) (h1 : Take (eB b bs r fr) hs r1) (h2 : Take (eW wp b bs r) r1 r2) (hf : Soft fr ((pack bs).map b8 ++ r).length) (hl : l.length ≤ 1024) (h0 : bs ++ bytesBits l ≠ []) (htot : bs.length + 8 * l.length ≤ 8192) (hB : At G.w0 B (l.map b8)) (hd : l ≠ [] → ∀ a, B = some a → a.block ∉ G.fp)
    (hk : ∀ b r fr, Soft fr ((pack (bs ++ bytesBits l)).map b8 ++ r).length → K (.int .i64 0) (eB b (bs ++ bytesBits l) r fr :: eW wp b (bs ++ bytesBits l) r :: r2)) : CallVC G hs 54 [.pointer (some ⟨wp, 0, none⟩), .slice B l.length cb] K := by
  have hpm : hs.Perm (wobj wp (some ⟨b, 0, none⟩) ((pack bs).map b8 ++ r).length [eB b bs r fr] bs bs.length ++ r2) := h1.perm.trans (List.Perm.cons _ h2.perm)
  have hB2 : ∀ w, St G hs w → At w B (l.map b8) := fun w hw => by
    by_cases hx : l = []
    · subst hx; exact At.nil
    · exact hB.here hw (hd hx)
  refine CallVC.mutT (wobj wp (some ⟨b, 0, none⟩) ((pack bs).map b8 ++ r).length [eB b bs r fr] bs bs.length) r2 hpm (fun w2 h2 h3 => hP ▸ bytes_m wp _ _ [eB b bs r fr] bs bs.length B l cb rfl hl htot (Own.row b _ r fr hf) w2 (hB2 w2 h2) (fun hx a ha => (ha ▸ hB).news (by simpa using hx) (hd hx a ha) h2 hpm) (hP ▸ h3)) ?_
  rintro v H ⟨A', C', E', rfl, hO, rfl⟩
  obtain ⟨b, r, fr, hf, rfl, rfl, rfl⟩ := own_isRow hO h0
  rw [show ((bs.length : Int) + 8 * l.length) = ((bs ++ bytesBits l).length : Nat) by rw [List.length_append, bytesBits_len]; omega]
  exact hk b r fr hf
end
theorem fit_mk {x : Int} {w : Nat} (M : Int) (hw : w ≤ 64) (hM : (2 : Int) ^ w = M) (h0 : 0 ≤ x) (h1 : x < M) : fitsIn (x, w) := ⟨hw, h0, hM ▸ h1⟩
theorem fits1 {p : Int × Nat} (h : fitsIn p) : ∀ q ∈ [p], fitsIn q := by simpa using h
theorem fits2 {p p2 : Int × Nat} (h : fitsIn p) (h2 : fitsIn p2) : ∀ q ∈ [p, p2], fitsIn q := by
  intro q hq
  simp only [List.mem_cons, List.not_mem_nil, or_false] at hq
  rcases hq with rfl | rfl <;> assumption
theorem fits3 {p p2 p3 : Int × Nat} (h : fitsIn p) (h2 : fitsIn p2) (h3 : fitsIn p3) : ∀ q ∈ [p, p2, p3], fitsIn q := by
  intro q hq
  simp only [List.mem_cons, List.not_mem_nil, or_false] at hq
  rcases hq with rfl | rfl | rfl <;> assumption
theorem ne_app {α : Type} {a b : List α} (h : a ≠ []) : a ++ b ≠ [] := fun e => h (List.append_eq_nil_iff.1 e).1
theorem told_m (f : Fr) (hi : 0 ≤ f.index ∧ f.index ≤ 256) (hk : f.key.l.length ≤ 16) (wp b : Nat) (bs : List Bool) (r : List Value) (fr : Nat × Nat) (hbs : bs ≠ []) (hb : bs.length ≤ 1000) (hf : Soft fr ((pack bs).map b8 ++ r).length) (w : World) (hK : At w f.key.a (f.key.l.map b8)) (hd : f.key.l ≠ [] → ∀ a, f.key.a = some a → a.block ∉ [b, wp])
    (hw : St ⟨Tryz.prog, w, [b, wp]⟩ [eB b bs r fr, eW wp b bs r] w) :
    Mut Tryz.prog 90 [.agg #[.pointer (some ⟨wp, 0, none⟩)], f.v] w [eB b bs r fr, eW wp b bs r] fun v hs2 => ∃ H, List.Sublist H hs2 ∧ ∃ b' r' fr', Soft fr' ((pack (bs ++ pBits [(f.index, 16)] ++ bytesBits f.key.l)).map b8 ++ r').length ∧ H = [eB b' (bs ++ pBits [(f.index, 16)] ++ bytesBits f.key.l) r' fr', eW wp b' (bs ++ pBits [(f.index, 16)] ++ bytesBits f.key.l) r'] := by
  refine mut_vc tab_ok Tryz.func90 rfl rfl hw ?_
  repeat' ((try (conv => whnf)); (first | (refine CallVC.numsW (bs := bs) (ps := [(f.index, 16)]) rfl (by repeat (first | exact Take.head _ | apply Take.tail)) (by repeat (first | exact Take.head _ | apply Take.tail)) hf (by repeat (first | exact List.Mem.head _ | refine List.Mem.tail _ ?_)) rfl (Nat.le_of_ble_eq_true rfl) (ne_app hbs) (fits1 (fit_mk 65536 (by decide) (by decide) (by omega) (by omega))) (by show bs.length + 16 ≤ 8192; omega) (fun v b2 r2 fr2 hf2 => ?_)) | (refine CallVC.bytesW (bs := bs ++ pBits [(f.index, 16)]) (l := f.key.l) rfl (by repeat (first | exact Take.head _ | apply Take.tail)) (by repeat (first | exact Take.head _ | apply Take.tail)) (by assumption) (by omega) (ne_app (ne_app hbs)) (by rw [List.length_append, pBits_len]; show bs.length + 16 + _ ≤ 8192; omega) hK hd (fun b3 r3 fr3 hf3 => ?_)) | refine Need.au ?_ | (refine Split.mk (fun hsplit => ?_) (fun hsplit => ?_) <;> (try simp only [List.cons.injEq, and_true, true_and, not_true_eq_false, not_false_eq_true] at hsplit) <;> try (exfalso; omega)) | refine Pick.au ?_ | refine store_au ?_ | refine Any.mk (fun _ => ?_) | refine Both.mk ?_ ?_)); all_goals (try (conv => whnf))
  exact Done.mk ⟨_, List.Sublist.cons_cons _ (List.Sublist.cons_cons _ (List.nil_sublist _)), _, _, _, hf3, rfl⟩
end
section
set_option linter.unusedVariables false
set_option linter.unusedSimpArgs false
set_option maxRecDepth 100000
set_option maxHeartbeats 8000000
open Go
attribute [local irreducible] bitsOf shlOf shrOf pack numBits bytesBits
/-- The bits of a frame but its tag's. -/
def headBits (f : FrS) : List Bool := pBits [(f.kind, 4), (f.frm, 4)]
def dataBits (f : FrS) : List Bool := headBits f ++ pBits [(f.epoch, 16), (f.round, 24), (f.view, 8)] ++ pBits [(f.index, 16)] ++ bytesBits f.key ++ pBits [((f.body.length : Int), 5)] ++ bytesBits f.body
def pingBits (f : FrS) : List Bool := headBits f ++ pBits [(f.to, 4), ((f.nonce.toNat : Int), 64)]
def pongBits (f : FrS) : List Bool := pingBits f ++ pBits [(f.stamp, 48), (f.epoch, 16), (f.start, 24)] ++ pBits [(f.index, 16)] ++ bytesBits f.key
def coreBits (f : FrS) : List Bool := if f.kind = 1 then dataBits f else if f.kind = 2 then pingBits f else pongBits f
theorem head_ne (f : FrS) : headBits f ≠ [] := fun h => by
  have := congrArg List.length h
  rw [headBits, pBits_len] at this
  cases this
section
variable {G : Cx} {hs : Hp}
theorem CallVC.toldW {K : Value → Hp → Prop} (f : Fr) {wp b : Nat} {bs : List Bool} {r : List Value} {fr : Nat × Nat} {r1 r2 : Hp} (hP : G.P = Tryz.prog) (hi : 0 ≤ f.index ∧ f.index ≤ 256) (hk16 : f.key.l.length ≤ 16) (hbs : bs ≠ []) (hb : bs.length ≤ 1000)
    (h1 : Take (eB b bs r fr) hs r1) (h2 : Take (eW wp b bs r) r1 r2) (hf : Soft fr ((pack bs).map b8 ++ r).length) (hK : At G.w0 f.key.a (f.key.l.map b8)) (hd : f.key.l ≠ [] → ∀ a, f.key.a = some a → a.block ∉ G.fp)
    (hk : ∀ v b r fr, Soft fr ((pack (bs ++ pBits [(f.index, 16)] ++ bytesBits f.key.l)).map b8 ++ r).length → K v (eB b (bs ++ pBits [(f.index, 16)] ++ bytesBits f.key.l) r fr :: eW wp b (bs ++ pBits [(f.index, 16)] ++ bytesBits f.key.l) r :: r2)) :
    CallVC G hs 90 [.agg #[.pointer (some ⟨wp, 0, none⟩)], f.v] K := by
  have hpm : hs.Perm ([eB b bs r fr, eW wp b bs r] ++ r2) := h1.perm.trans (List.Perm.cons _ h2.perm)
  have hB2 : ∀ w, St G hs w → At w f.key.a (f.key.l.map b8) := fun w hw => by
    by_cases hx : f.key.l = []
    · rw [hx]; exact At.nil
    · exact hK.here hw (hd hx)
  refine CallVC.mutT [eB b bs r fr, eW wp b bs r] r2 hpm (fun w2 h2 h3 => hP ▸ told_m f hi hk16 wp b bs r fr hbs hb hf w2 (hB2 w2 h2) (fun hx a ha => (ha ▸ hK).news (by simpa using hx) (hd hx a ha) h2 hpm) (hP ▸ h3)) ?_
  rintro v H ⟨b', r', fr', hf', rfl⟩
  exact hk v b' r' fr' hf'
end
/-- What the frame's writer is in the end. -/
def Written (bs : List Bool) (v : Value) (hs : Hp) : Prop := ∃ wp b r fr, v = .agg #[.pointer (some ⟨wp, 0, none⟩)] ∧ Soft fr ((pack bs).map b8 ++ r).length ∧ List.Sublist [eB b bs r fr, eW wp b bs r] hs
theorem core1_r (f : Fr) (hok : f.fine) (hk1 : f.kind = 1) (hk16 : f.key.l.length = 16) (w : World) (hK : At w f.key.a (f.key.l.map b8)) (hB : At w f.body.a (f.body.l.map b8)) : Ret Tryz.prog 53 [f.v] w (Written (dataBits f.s)) := by
  have hne := head_ne f.s
  refine ret_vc tab_ok Tryz.func53 rfl rfl ?_
  repeat' ((try (conv => whnf)); (first | refine CallVC.newW rfl (fun wp => ?_) | (refine CallVC.nums0 (ps := [(f.kind, 4), (f.frm, 4)]) rfl (by repeat (first | exact Take.head _ | apply Take.tail)) (by repeat (first | exact List.Mem.head _ | refine List.Mem.tail _ ?_)) rfl (Nat.le_of_ble_eq_true rfl) (head_ne f.s) (fits2 (fit_mk 16 (by decide) (by decide) (by omega) (by omega)) (fit_mk 16 (by decide) (by decide) (by omega) (by omega))) (by show 8 ≤ 8192; omega) (fun v b2 r2 fr2 hf2 => ?_)) | (refine CallVC.numsW (bs := pBits [(f.kind, 4), (f.frm, 4)]) (ps := [(f.epoch, 16), (f.round, 24), (f.view, 8)]) rfl (by repeat (first | exact Take.head _ | apply Take.tail)) (by repeat (first | exact Take.head _ | apply Take.tail)) (by assumption) (by repeat (first | exact List.Mem.head _ | refine List.Mem.tail _ ?_)) rfl (Nat.le_of_ble_eq_true rfl) (ne_app hne) (fits3 (fit_mk 65536 (by decide) (by decide) (by omega) (by omega)) (fit_mk 16777216 (by decide) (by decide) (by omega) (by omega)) (fit_mk 256 (by decide) (by decide) (by omega) (by omega))) (by rw [pBits_len]; show 8 + 48 ≤ 8192; omega) (fun v b3 r3 fr3 hf3 => ?_)) | (refine CallVC.toldW f (bs := pBits [(f.kind, 4), (f.frm, 4)] ++ pBits [(f.epoch, 16), (f.round, 24), (f.view, 8)]) rfl (by omega) (by omega) (ne_app hne) (by rw [List.length_append, pBits_len, pBits_len]; show 8 + 48 ≤ 1000; omega) (by repeat (first | exact Take.head _ | apply Take.tail)) (by repeat (first | exact Take.head _ | apply Take.tail)) (by assumption) hK (fun _ _ _ => by simp) (fun v b4 r4 fr4 hf4 => ?_)) | (refine CallVC.numsW (bs := pBits [(f.kind, 4), (f.frm, 4)] ++ pBits [(f.epoch, 16), (f.round, 24), (f.view, 8)] ++ pBits [(f.index, 16)] ++ bytesBits f.key.l) (ps := [((f.body.l.length : Int), 5)]) rfl (by repeat (first | exact Take.head _ | apply Take.tail)) (by repeat (first | exact Take.head _ | apply Take.tail)) (by assumption) (by repeat (first | exact List.Mem.head _ | refine List.Mem.tail _ ?_)) rfl (Nat.le_of_ble_eq_true rfl) (ne_app (ne_app (ne_app (ne_app hne)))) (fits1 (fit_mk 32 (by decide) (by decide) (by omega) (by omega))) (by simp only [List.length_append, pBits_len, bytesBits_len, hk16]; show 8 + 48 + 16 + 128 + 5 ≤ 8192; omega) (fun v b5 r5 fr5 hf5 => ?_)) | (refine CallVC.bytesW (bs := pBits [(f.kind, 4), (f.frm, 4)] ++ pBits [(f.epoch, 16), (f.round, 24), (f.view, 8)] ++ pBits [(f.index, 16)] ++ bytesBits f.key.l ++ pBits [((f.body.l.length : Int), 5)]) (l := f.body.l) rfl (by repeat (first | exact Take.head _ | apply Take.tail)) (by repeat (first | exact Take.head _ | apply Take.tail)) (by assumption) (by omega) (ne_app (ne_app (ne_app (ne_app (ne_app hne))))) (by simp only [List.length_append, pBits_len, bytesBits_len, hk16]; show 8 + 48 + 16 + 128 + 5 + 8 * f.body.l.length ≤ 8192; omega) hB (fun _ _ _ => by simp) (fun b6 r6 fr6 hf6 => ?_)) | refine Need.au ?_ | (refine Split.mk (fun hsplit => ?_) (fun hsplit => ?_) <;> (try simp only [List.cons.injEq, and_true, true_and, not_true_eq_false, not_false_eq_true] at hsplit) <;> try (exfalso; omega)) | refine Pick.au ?_ | refine store_au ?_ | refine Any.mk (fun _ => ?_) | refine Both.mk ?_ ?_)); all_goals (try (conv => whnf))
  exact Done.mk ⟨_, b6, r6, fr6, rfl, hf6, by repeat (first | exact List.Sublist.refl _ | exact List.nil_sublist _ | refine List.Sublist.cons_cons _ ?_ | refine List.Sublist.cons _ ?_)⟩
theorem core2_r (f : Fr) (hok : f.fine) (hk1 : f.kind = 2) (hp : f.pair) (w : World) : Ret Tryz.prog 53 [f.v] w (Written (pingBits f.s)) := by
  have hne := head_ne f.s
  have hnn := f.nonce.isLt
  refine ret_vc tab_ok Tryz.func53 rfl rfl ?_
  repeat' ((try (conv => whnf)); (first | refine CallVC.newW rfl (fun wp => ?_) | (refine CallVC.nums0 (ps := [(f.kind, 4), (f.frm, 4)]) rfl (by repeat (first | exact Take.head _ | apply Take.tail)) (by repeat (first | exact List.Mem.head _ | refine List.Mem.tail _ ?_)) rfl (Nat.le_of_ble_eq_true rfl) (head_ne f.s) (fits2 (fit_mk 16 (by decide) (by decide) (by omega) (by omega)) (fit_mk 16 (by decide) (by decide) (by omega) (by omega))) (by show 8 ≤ 8192; omega) (fun v b2 r2 fr2 hf2 => ?_)) | (refine CallVC.numsW (bs := pBits [(f.kind, 4), (f.frm, 4)]) (ps := [(f.to, 4), ((f.nonce.toNat : Int), 64)]) rfl (by repeat (first | exact Take.head _ | apply Take.tail)) (by repeat (first | exact Take.head _ | apply Take.tail)) (by assumption) (by repeat (first | exact List.Mem.head _ | refine List.Mem.tail _ ?_)) rfl (Nat.le_of_ble_eq_true rfl) (ne_app hne) (fits2 (fit_mk 16 (by decide) (by decide) (by omega) (by omega)) (fit_mk 18446744073709551616 (by decide) (by decide) (by omega) (by omega))) (by rw [pBits_len]; show 8 + 68 ≤ 8192; omega) (fun v b3 r3 fr3 hf3 => ?_)) | refine Need.au ?_ | (refine Split.mk (fun hsplit => ?_) (fun hsplit => ?_) <;> (try simp only [List.cons.injEq, and_true, true_and, not_true_eq_false, not_false_eq_true] at hsplit) <;> try (exfalso; omega)) | refine Pick.au ?_ | refine store_au ?_ | refine Any.mk (fun _ => ?_) | refine Both.mk ?_ ?_)); all_goals (try (conv => whnf))
  exact Done.mk ⟨_, b3, r3, fr3, rfl, hf3, by repeat (first | exact List.Sublist.refl _ | exact List.nil_sublist _ | refine List.Sublist.cons_cons _ ?_ | refine List.Sublist.cons _ ?_)⟩
theorem core3_r (f : Fr) (hok : f.fine) (hk1 : f.kind = 3) (hp : f.pair) (hk16 : f.key.l.length = 16) (w : World) (hK : At w f.key.a (f.key.l.map b8)) : Ret Tryz.prog 53 [f.v] w (Written (pongBits f.s)) := by
  have hne := head_ne f.s
  have hnn := f.nonce.isLt
  refine ret_vc tab_ok Tryz.func53 rfl rfl ?_
  repeat' ((try (conv => whnf)); (first | refine CallVC.newW rfl (fun wp => ?_) | (refine CallVC.nums0 (ps := [(f.kind, 4), (f.frm, 4)]) rfl (by repeat (first | exact Take.head _ | apply Take.tail)) (by repeat (first | exact List.Mem.head _ | refine List.Mem.tail _ ?_)) rfl (Nat.le_of_ble_eq_true rfl) (head_ne f.s) (fits2 (fit_mk 16 (by decide) (by decide) (by omega) (by omega)) (fit_mk 16 (by decide) (by decide) (by omega) (by omega))) (by show 8 ≤ 8192; omega) (fun v b2 r2 fr2 hf2 => ?_)) | (refine CallVC.numsW (bs := pBits [(f.kind, 4), (f.frm, 4)]) (ps := [(f.to, 4), ((f.nonce.toNat : Int), 64)]) rfl (by repeat (first | exact Take.head _ | apply Take.tail)) (by repeat (first | exact Take.head _ | apply Take.tail)) (by assumption) (by repeat (first | exact List.Mem.head _ | refine List.Mem.tail _ ?_)) rfl (Nat.le_of_ble_eq_true rfl) (ne_app hne) (fits2 (fit_mk 16 (by decide) (by decide) (by omega) (by omega)) (fit_mk 18446744073709551616 (by decide) (by decide) (by omega) (by omega))) (by rw [pBits_len]; show 8 + 68 ≤ 8192; omega) (fun v b3 r3 fr3 hf3 => ?_)) | (refine CallVC.numsW (bs := pBits [(f.kind, 4), (f.frm, 4)] ++ pBits [(f.to, 4), ((f.nonce.toNat : Int), 64)]) (ps := [(f.stamp, 48), (f.epoch, 16), (f.start, 24)]) rfl (by repeat (first | exact Take.head _ | apply Take.tail)) (by repeat (first | exact Take.head _ | apply Take.tail)) (by assumption) (by repeat (first | exact List.Mem.head _ | refine List.Mem.tail _ ?_)) rfl (Nat.le_of_ble_eq_true rfl) (ne_app (ne_app hne)) (fits3 (fit_mk 281474976710656 (by decide) (by decide) (by omega) (by omega)) (fit_mk 65536 (by decide) (by decide) (by omega) (by omega)) (fit_mk 16777216 (by decide) (by decide) (by omega) (by omega))) (by rw [List.length_append, pBits_len, pBits_len]; show 8 + 68 + 88 ≤ 8192; omega) (fun v b4 r4 fr4 hf4 => ?_)) | (refine CallVC.toldW f (bs := pBits [(f.kind, 4), (f.frm, 4)] ++ pBits [(f.to, 4), ((f.nonce.toNat : Int), 64)] ++ pBits [(f.stamp, 48), (f.epoch, 16), (f.start, 24)]) rfl (by omega) (by omega) (ne_app (ne_app hne)) (by rw [List.length_append, List.length_append, pBits_len, pBits_len, pBits_len]; show 8 + 68 + 88 ≤ 1000; omega) (by repeat (first | exact Take.head _ | apply Take.tail)) (by repeat (first | exact Take.head _ | apply Take.tail)) (by assumption) hK (fun _ _ _ => by simp) (fun v b5 r5 fr5 hf5 => ?_)) | refine Need.au ?_ | (refine Split.mk (fun hsplit => ?_) (fun hsplit => ?_) <;> (try simp only [List.cons.injEq, and_true, true_and, not_true_eq_false, not_false_eq_true] at hsplit) <;> try (exfalso; omega)) | refine Pick.au ?_ | refine store_au ?_ | refine Any.mk (fun _ => ?_) | refine Both.mk ?_ ?_)); all_goals (try (conv => whnf))
  exact Done.mk ⟨_, b5, r5, fr5, rfl, hf5, by repeat (first | exact List.Sublist.refl _ | exact List.nil_sublist _ | refine List.Sublist.cons_cons _ ?_ | refine List.Sublist.cons _ ?_)⟩
theorem core_r (f : Fr) (hok : f.ok) (w : World) (hK : At w f.key.a (f.key.l.map b8)) (hB : At w f.body.a (f.body.l.map b8)) : Ret Tryz.prog 53 [f.v] w (Written (coreBits f.s)) := by
  obtain ⟨hf, h⟩ := hok
  unfold coreBits
  rcases h with ⟨h1, h2⟩ | ⟨h1, h2⟩ | ⟨h1, h2⟩
  · rw [if_pos h1]; exact core1_r f hf h1 h2.2.2 w hK hB
  · rw [if_neg (by show f.kind ≠ 1; omega), if_pos h1]; exact core2_r f hf h1 h2.2.2.1 w
  · rw [if_neg (by show f.kind ≠ 1; omega), if_neg (by show f.kind ≠ 2; omega)]; exact core3_r f hf h1 h2.1 h2.2.2 w hK
end
section
set_option linter.unusedVariables false
set_option linter.unusedSimpArgs false
set_option maxRecDepth 100000
set_option maxHeartbeats 8000000
open Go
attribute [local irreducible] bitsOf shlOf shrOf pack numBits bytesBits coreBits crcSum
def FrS.fr (s : FrS) : Fr := ⟨s.kind, s.frm, s.to, s.epoch, s.start, s.round, s.nonce, s.stamp, s.view, s.index, ⟨none, s.key, 0⟩, ⟨none, s.body, 0⟩, ⟨none, s.tag, 0⟩⟩
def FrS.ok (s : FrS) : Prop := s.fr.ok
instance (s : FrS) : Decidable s.ok := inferInstanceAs (Decidable s.fr.ok)
theorem ok_s (f : Fr) : f.s.ok ↔ f.ok := Iff.rfl
def FrS.untagged (s : FrS) : FrS := { s with tag := List.replicate 8 0#8 }
abbrev Fr.tagged (f : Fr) (a : Option Addr) (l : List B8) (c : Nat) : Fr := ⟨f.kind, f.frm, f.to, f.epoch, f.start, f.round, f.nonce, f.stamp, f.view, f.index, f.key, f.body, ⟨a, l, c⟩⟩
theorem untagged_ok (f : Fr) (a : Option Addr) (c : Nat) : (f.tagged a (List.replicate 8 0#8) c).ok ↔ f.s.untagged.ok := Iff.rfl
theorem coreBits_untagged (s : FrS) : coreBits s.untagged = coreBits s := by unfold coreBits; rfl
theorem coreBits_tagged (f : Fr) (a : Option Addr) (l : List B8) (c : Nat) : coreBits (f.tagged a l c).s = coreBits f.s := by unfold coreBits; rfl
theorem coreBits_len {s : FrS} (h : s.ok) : (coreBits s).length ≤ 400 := by
  have h' : s.fr.ok := h
  obtain ⟨hf, hr⟩ := h'
  have h1 : s.fr.key.l.length = s.key.length := rfl
  have h2 : s.fr.body.l.length = s.body.length := rfl
  have h3 : s.fr.kind = s.kind := rfl
  unfold coreBits
  split
  · simp only [dataBits, headBits, List.length_append, pBits_len, bytesBits_len, wSum]; omega
  split
  · simp only [pingBits, headBits, List.length_append, pBits_len, bytesBits_len, wSum]; omega
  · simp only [pongBits, pingBits, headBits, List.length_append, pBits_len, bytesBits_len, wSum]; omega
theorem coreBits_ne (s : FrS) : coreBits s ≠ [] := by
  unfold coreBits dataBits pongBits pingBits
  split
  · exact ne_app (ne_app (ne_app (ne_app (ne_app (head_ne s)))))
  split
  · exact ne_app (head_ne s)
  · exact ne_app (ne_app (ne_app (ne_app (head_ne s))))
/-- What a tag is made of; the bytes of a frame. -/
def coreX (s : FrS) : List B8 × Int := if s.untagged.ok then (pack (coreBits s), 0) else ([], 1)
def frameBytes (s : FrS) : List B8 := fixB (pack (coreBits s ++ bytesBits s.tag))
def putX (s : FrS) : List B8 × Int := if s.ok then (frameBytes s, 0) else ([], 1)
theorem fcheck_yes (f : Fr) (h : f.ok) (w : World) : Val Tryz.prog 52 [f.v] w (.int .i64 0) := by
  have := fcheck_v f w
  rwa [if_pos h] at this
theorem fcheck_no (f : Fr) (h : ¬ f.ok) (w : World) : Val Tryz.prog 52 [f.v] w (.int .i64 1) := by
  have := fcheck_v f w
  rwa [if_neg h] at this
section
variable {G : Cx} {hs : Hp}
theorem CallVC.coreW {K : Value → Hp → Prop} (f : Fr) (bs : List Bool) (hP : G.P = Tryz.prog) (hok : f.ok) (hbs : coreBits f.s = bs) (hK : At G.w0 f.key.a (f.key.l.map b8)) (hB : At G.w0 f.body.a (f.body.l.map b8)) (hfp : G.fp = [])
    (hk : ∀ wp b r fr, Soft fr ((pack bs).map b8 ++ r).length → K (.agg #[.pointer (some ⟨wp, 0, none⟩)]) (eB b bs r fr :: eW wp b bs r :: hs)) : CallVC G hs 53 [f.v] K := by
  subst hbs
  refine CallVC.ofW (fun w hw => hP ▸ core_r f hok w (hK.here hw (by simp [hfp])) (hB.here hw (by simp [hfp]))) ?_
  rintro v hs2 ⟨wp, b, r, fr, rfl, hf, hsub⟩
  exact ⟨_, hsub, hk wp b r fr hf⟩
end
theorem fcore_r (f : Fr) (w : World) (hK : At w f.key.a (f.key.l.map b8)) (hB : At w f.body.a (f.body.l.map b8)) : Ret Tryz.prog 42 [f.v] w (GivesX (coreX f.s).1 (coreX f.s).2) := by
  unfold coreX
  by_cases hok : f.s.untagged.ok
  · rw [if_pos hok]
    have hlen := coreBits_len hok
    rw [coreBits_untagged] at hlen
    refine ret_vc tab_ok Tryz.func42 rfl rfl ?_
    repeat' ((try (conv => whnf)); (first | (refine CallVC.val (fun w2 h2 => fcheck_yes (f.tagged _ (List.replicate 8 0#8) _) (by exact hok) w2) ?_) | (refine CallVC.coreW (f.tagged _ (List.replicate 8 0#8) _) (coreBits f.s) rfl (by exact hok) (coreBits_tagged f _ _ _) hK hB rfl (fun wp b r fr hf => ?_)) | (refine CallVC.givesB (xs := pack (coreBits f.s)) (fun w2 h2 => done_r _ _ (pack (coreBits f.s)) _ _ (by rw [pack_len]; omega) w2 (at_in (by repeat (first | exact List.Mem.head _ | refine List.Mem.tail _ ?_)) h2) (at_pre (by repeat (first | exact List.Mem.head _ | refine List.Mem.tail _ ?_)) h2)) (fun b3 r3 fr3 hf3 => ?_)) | refine Need.au ?_ | (refine Split.mk (fun hsplit => ?_) (fun hsplit => ?_) <;> (try simp only [List.cons.injEq, and_true, true_and, not_true_eq_false, not_false_eq_true] at hsplit) <;> try (exfalso; omega)) | refine Pick.au ?_ | refine store_au ?_ | refine Any.mk (fun _ => ?_) | refine Both.mk ?_ ?_)); all_goals (try (conv => whnf))
    exact Done.mk (givesE_toX ⟨_, rfl, Gives.mk (List.Mem.head _) (by rw [List.length_map]) rfl hf3⟩)
  · rw [if_neg hok]
    refine ret_vc tab_ok Tryz.func42 rfl rfl ?_
    repeat' ((try (conv => whnf)); (first | (refine CallVC.val (fun w2 h2 => fcheck_no (f.tagged _ (List.replicate 8 0#8) _) (by exact hok) w2) ?_) | refine Need.au ?_ | (refine Split.mk (fun hsplit => ?_) (fun hsplit => ?_) <;> (try simp only [List.cons.injEq, and_true, true_and, not_true_eq_false, not_false_eq_true] at hsplit) <;> try (exfalso; omega)) | refine Pick.au ?_ | refine store_au ?_ | refine Any.mk (fun _ => ?_) | refine Both.mk ?_ ?_)); all_goals (try (conv => whnf))
    exact Done.mk GivesX.no
theorem fput_r (f : Fr) (w : World) (hK : At w f.key.a (f.key.l.map b8)) (hB : At w f.body.a (f.body.l.map b8)) (hT : At w f.tag.a (f.tag.l.map b8)) : Ret Tryz.prog 21 [f.v] w (GivesX (putX f.s).1 (putX f.s).2) := by
  unfold putX
  by_cases hok : f.s.ok
  · rw [if_pos hok]
    have hlen := coreBits_len hok
    have ht8 : f.tag.l.length = 8 := by have h : f.ok := hok; exact h.1.2.1
    have hbl : (coreBits f.s ++ bytesBits f.tag.l).length ≤ 464 := by rw [List.length_append, bytesBits_len]; omega
    refine ret_vc tab_ok Tryz.func21 rfl rfl ?_
    repeat' ((try (conv => whnf)); (first | (refine CallVC.val (fun w2 h2 => fcheck_yes f hok w2) ?_) | (refine CallVC.coreW f (coreBits f.s) rfl hok rfl hK hB rfl (fun wp b r fr hf => ?_)) | (refine CallVC.bytesW (bs := coreBits f.s) (l := f.tag.l) rfl (by repeat (first | exact Take.head _ | apply Take.tail)) (by repeat (first | exact Take.head _ | apply Take.tail)) (by assumption) (by omega) (ne_app (coreBits_ne _)) (by omega) hT (fun _ _ _ => by simp) (fun b2 r2 fr2 hf2 => ?_)) | (refine CallVC.givesB (xs := pack (coreBits f.s ++ bytesBits f.tag.l)) (fun w2 h2 => done_r _ _ (pack (coreBits f.s ++ bytesBits f.tag.l)) _ _ (by rw [pack_len]; omega) w2 (at_in (by repeat (first | exact List.Mem.head _ | refine List.Mem.tail _ ?_)) h2) (at_pre (by repeat (first | exact List.Mem.head _ | refine List.Mem.tail _ ?_)) h2)) (fun b3 r3 fr3 hf3 => ?_)) | (refine CallVC.givesB (xs := frameBytes f.s) (fun w2 h2 => cfix_r _ (pack (coreBits f.s ++ bytesBits f.tag.l)) _ (by rw [pack_len]; omega) w2 (at_pre (by repeat (first | exact List.Mem.head _ | refine List.Mem.tail _ ?_)) h2)) (fun b4 r4 fr4 hf4 => ?_)) | refine Need.au ?_ | (refine Split.mk (fun hsplit => ?_) (fun hsplit => ?_) <;> (try simp only [List.cons.injEq, and_true, true_and, not_true_eq_false, not_false_eq_true] at hsplit) <;> try (exfalso; omega)) | refine Pick.au ?_ | refine store_au ?_ | refine Any.mk (fun _ => ?_) | refine Both.mk ?_ ?_)); all_goals (try (conv => whnf))
    exact Done.mk (givesE_toX ⟨_, rfl, Gives.mk (List.Mem.head _) (by rw [List.length_map]) rfl hf4⟩)
  · rw [if_neg hok]
    refine ret_vc tab_ok Tryz.func21 rfl rfl ?_
    repeat' ((try (conv => whnf)); (first | (refine CallVC.val (fun w2 h2 => fcheck_no f hok w2) ?_) | refine Need.au ?_ | (refine Split.mk (fun hsplit => ?_) (fun hsplit => ?_) <;> (try simp only [List.cons.injEq, and_true, true_and, not_true_eq_false, not_false_eq_true] at hsplit) <;> try (exfalso; omega)) | refine Pick.au ?_ | refine store_au ?_ | refine Any.mk (fun _ => ?_) | refine Both.mk ?_ ?_)); all_goals (try (conv => whnf))
    exact Done.mk GivesX.no
end
end Go.Proofs.YtnlheljpagpiiaaGreat
