/-
  A question and its answer, sealed with the pair's key, are opened with it; what is heard of an answer; every input. A node that hears, in the program; every input. A node that hears, in one; calls of a node's methods among other blocks; the program computes at all; every input.
-/
import Derived.Test.YtnlheljpagpiiaaGreatMs
import Derived.Test.YtnlheljpagpiiaaGreatIc
import Derived.Test.YtnlheljpagpiiaaGreatMq
namespace Go.Proofs.YtnlheljpagpiiaaGreat
section
set_option linter.unusedVariables false
set_option linter.unusedSimpArgs false
set_option maxRecDepth 100000
set_option maxHeartbeats 8000000
open Go
theorem pairOf_comm (m : List B8) (i j : Int) : pairOf m j i = pairOf m i j := by
  unfold pairOf
  by_cases h : (0 ≤ i ∧ i < 8) ∧ (0 ≤ j ∧ j < 8) ∧ i ≠ j
  · rw [if_pos h, if_pos ⟨h.2.1, h.1, fun e => h.2.2 e.symm⟩, Int.min_comm, Int.max_comm]
  · rw [if_neg h, if_neg (fun h' => h ⟨h'.2.1, h'.1, fun e => h'.2.2 e.symm⟩)]
theorem pair_label : labelOk (strB sPair) = true := by decide
theorem pair16 {m : List B8} {i j : Int} (hm : m.length = 16) (hi : 0 ≤ i ∧ i ≤ 7) (hj : 0 ≤ j ∧ j ≤ 7) (h : j ≠ i) : (pairOf m i j).1.length = 16 := by
  unfold pairOf
  rw [if_pos ⟨⟨hi.1, by omega⟩, ⟨hj.1, by omega⟩, fun e => h e.symm⟩]
  unfold kdfKey
  rw [if_neg (by simp [pair_label]; try omega), if_neg (by omega)]
  exact expand_len _ _ _
theorem seal_own {s : FrS} {key : List B8} (h16 : key.length = 16) (hok : s.untagged.ok) : sealX s key = (frameBytes (s.withTag (tagOf s key)), 0) := by
  have h2 := withTag_ok hok (tagOf_len s key)
  unfold sealX putX
  rw [if_pos ⟨h16, hok⟩, if_pos h2]
theorem own_holds2 {s : FrS} {key : List B8} (h16 : key.length = 16) (hok : s.untagged.ok) : holdsX (s.withTag (tagOf s key)) key = true := by
  unfold holdsX
  refine decide_eq_true ⟨⟨h16, hok⟩, ?_⟩
  unfold tagOf
  rw [coreBits_withTag]
  rfl
theorem open_own {m : List B8} {s : FrS} {i j : Int} (h16 : (pairOf m i j).1.length = 16) (hok : s.untagged.ok) (hk : s.kind ≠ 1) (hf : s.frm = i) (ht : s.to = j) :
    openE m j (frameBytes (s.withTag (tagOf s (pairOf m i j).1))) = (s.withTag (tagOf s (pairOf m i j).1), 0) := by
  have hg := get_frame (withTag_ok hok (tagOf_len s (pairOf m i j).1))
  have e : pairOf m j (s.withTag (tagOf s (pairOf m i j).1)).frm = pairOf m i j := by
    show pairOf m j s.frm = _
    rw [hf, pairOf_comm]
  unfold openE
  rw [hg]
  dsimp only
  rw [if_pos rfl, e, if_neg (fun h => h.elim (fun h => hk h) (fun h => h ht)), if_pos (own_holds2 h16 hok)]
theorem frameBytes_le2 {s : FrS} (h : s.ok) : (frameBytes s).length ≤ 100 := by
  have hl := coreBits_len h
  have ht := (ok_nums h).1.2.1
  unfold frameBytes
  rw [fixB_len, pack_len, List.length_append, bytesBits_len, ht]
  omega
theorem ping_ok {i to : Int} {n : BitVec 64} (hi : 0 ≤ i ∧ i ≤ 7) (ht : 0 ≤ to ∧ to ≤ 7) (h : to ≠ i) : (pingS i to n).untagged.ok := by
  show (pingS i to n).untagged.fr.ok
  exact ⟨⟨hi, rfl, (show (0 : Int) ≤ 0 ∧ (0 : Int) ≤ 65535 from by decide), (show (0 : Int) ≤ 0 ∧ (0 : Int) ≤ 256 from by decide), (show (0 : Int) ≤ 0 ∧ (0 : Int) ≤ 1048576 from by decide), (show (0 : Int) ≤ 0 ∧ (0 : Int) ≤ 1048576 from by decide), (show (0 : Int) ≤ 0 ∧ (0 : Int) ≤ 255 from by decide), (show (0 : Int) ≤ 0 from by decide), (show (0 : Int) ≤ 1099511627776 from by decide), (show 0 ≤ 16 from by decide)⟩, Or.inr (Or.inl ⟨rfl, ⟨rfl, rfl, rfl⟩, ⟨rfl, rfl⟩, ⟨ht, h⟩, rfl, rfl, rfl⟩)⟩
/-- A pong, as a frame. -/
def pongS (i to : Int) (n : BitVec 64) (now e st ix : Int) (key : List B8) : FrS := ⟨3, i, to, e, st, 0, n, now, 0, ix, key, [], []⟩
theorem pong_ok {i to : Int} {n : BitVec 64} {now e st ix : Int} {key : List B8} (hi : 0 ≤ i ∧ i ≤ 7) (ht : 0 ≤ to ∧ to ≤ 7) (h : to ≠ i) (hn : 0 ≤ now ∧ now ≤ 1099511627776) (he : 0 ≤ e ∧ e ≤ 65535) (hs : 0 ≤ st ∧ st ≤ 1048576) (hx : 0 ≤ ix ∧ ix ≤ 256) (hk : key.length = 16) : (pongS i to n now e st ix key).untagged.ok := by
  show (pongS i to n now e st ix key).untagged.fr.ok
  exact ⟨⟨hi, rfl, he, hx, (show (0 : Int) ≤ 0 ∧ (0 : Int) ≤ 1048576 from by decide), hs, (show (0 : Int) ≤ 0 ∧ (0 : Int) ≤ 255 from by decide), hn.1, hn.2, (show 0 ≤ 16 from by decide)⟩, Or.inr (Or.inr ⟨rfl, ⟨ht, h⟩, ⟨rfl, rfl, rfl⟩, hk⟩)⟩
/-- What a pong tells, but for its key. -/
structure Ans where
  frm : Int
  lo : Int
  hi : Int
  e : Int
  st : Int
  ix : Int
abbrev Ans.v (a : Ans) (k : Value) : Value := .agg #[.int .i64 a.frm, .int .i64 a.lo, .int .i64 a.hi, .int .i64 a.e, .int .i64 a.st, .int .i64 a.ix, k]
abbrev Ans.zero : Ans := ⟨0, 0, 0, 0, 0, 0⟩
abbrev hearP (c : Cfg) (i now : Int) (s : FrS) : Prop := s.kind = 3 ∧ s.to = i ∧ s.ok ∧ s.frm < c.n ∧ 0 ≤ now ∧ now ≤ 1099511627776
abbrev ansOf (c : Cfg) (s : FrS) (at_ now : Int) : Ans := ⟨s.frm, s.stamp - now, s.stamp + (mostX (now - at_) (c.rho + c.slew)).1 - now, s.epoch, s.start, s.index⟩
abbrev missP (p : BitVec 64 × Int) (s : FrS) (now : Int) : Prop := p = (0, 0) ∨ p.1 ≠ s.nonce ∨ now < p.2
/-- What is heard: the answer, its key, the error, what waits behind it. -/
def hearX (c : Cfg) (i : Int) (wait : List (BitVec 64 × Int)) (s : FrS) (now : Int) : Ans × List B8 × Int × List (BitVec 64 × Int) :=
  if hearP c i now s then
    if missP (wait.getD s.frm.toNat (0, 0)) s now then (Ans.zero, [], 6, wait)
    else if c.win < now - (wait.getD s.frm.toNat (0, 0)).2 then (Ans.zero, [], 12, wait.set s.frm.toNat (0, 0))
    else (ansOf c s (wait.getD s.frm.toNat (0, 0)).2 now, s.key, 0, wait.set s.frm.toNat (0, 0))
  else (Ans.zero, [], 1, wait)
/-- All that wait, in their times. -/
def InTime (wait : List (BitVec 64 × Int)) : Prop := ∀ p ∈ wait, 0 ≤ p.2 ∧ p.2 ≤ 1099511627776
theorem InTime.at {wait : List (BitVec 64 × Int)} (h : InTime wait) (j : Nat) : 0 ≤ (wait.getD j (0, 0)).2 ∧ (wait.getD j (0, 0)).2 ≤ 1099511627776 := by
  rw [List.getD_eq_getElem?_getD]
  rcases Nat.lt_or_ge j wait.length with hj | hj
  · rw [List.getElem?_eq_getElem hj]
    exact h _ (List.getElem_mem hj)
  · rw [List.getElem?_eq_none hj]
    exact ⟨by decide, by decide⟩
theorem InTime.set {wait : List (BitVec 64 × Int)} (h : InTime wait) (j : Nat) {n : BitVec 64} {t : Int} (ht : 0 ≤ t ∧ t ≤ 1099511627776) : InTime (wait.set j (n, t)) := by
  intro p hp
  rcases List.mem_or_eq_of_mem_set hp with h1 | rfl
  · exact h p h1
  · exact ht
theorem InTime.none : InTime wait0 := by
  intro p hp
  simp only [wait0, List.mem_cons, List.not_mem_nil, or_false, or_self] at hp
  subst hp
  exact ⟨by decide, by decide⟩
theorem own_cap {A : Option Addr} {l : List B8} {c : Nat} {E : Hp} (h : Own A l c E) : l.length ≤ c := by
  cases h with
  | none => exact Nat.le_refl _
  | row b l r fr hf => rw [List.length_append, List.length_map]; omega
theorem own_apart {G : Cx} {hs : Hp} {w : World} {pre rest : Hp} {A : Option Addr} {l : List B8} {c : Nat} {E : Hp} (h : Own A l c E) (hE : List.Sublist E rest) (hw : St G hs w) (hp : hs.Perm (pre ++ rest)) : ∀ a, A = some a → a.block ∉ ids pre := by
  cases h with
  | none => intro a ha; cases ha
  | row b l r fr hf =>
    rintro a ha
    cases ha
    exact apart_rest hw hp (hE.subset (List.Mem.head _))
end
section
set_option linter.unusedVariables false
set_option linter.unusedSimpArgs false
set_option maxRecDepth 100000
set_option maxHeartbeats 8000000
open Go
theorem most_bnd (a d : Int) : 0 ≤ (mostX a d).1 ∧ (mostX a d).1 ≤ 163827232538624 := by
  unfold mostX
  split
  · rename_i h
    obtain ⟨h1, h2⟩ := most_fit h
    exact ⟨Int.ediv_nonneg h1 (by omega), Int.le_trans (Int.ediv_le_self _ h1) h2⟩
  · exact ⟨by decide, by decide⟩
attribute [local irreducible] bitsOf shlOf shrOf pack numBits bytesBits coreBits crcSum tagOf macKey FrS.ok frameBytes sealX getX holdsX mostX
theorem wait_own {G : Cx} {hs : Hp} {ep : Nat} {c : Cfg} {M : Sl} {i : Int} {first count : BitVec 64} {wait : List (BitVec 64 × Int)} {j : Nat} (hm : eE ep c M i first count wait ∈ hs) (hj : j < wait.length) :
    [w64 (wait.getD j (0, 0)).1, .int .i64 (wait.getD j (0, 0)).2].length = 2 ∧ G.cellsAre hs (Addr.add ⟨ep, 14, none⟩ (j * 2)) [w64 (wait.getD j (0, 0)).1, .int .i64 (wait.getD j (0, 0)).2] := by
  obtain ⟨h1, h2⟩ := eCs_wait (c := c) (M := M) (i := i) (first := first) (count := count) hj
  refine ⟨rfl, fun k v hv => ?_⟩
  rw [add_plain, add_plain]
  match k, hv with
  | 0, hv => cases hv; rw [show 14 + j * 2 + 0 = 14 + 2 * j by omega]; exact cellIs_at hm h1
  | 1, hv => cases hv; rw [show 14 + j * 2 + 1 = 14 + 2 * j + 1 by omega]; exact cellIs_at hm h2
section
variable (ep : Nat) (c : Cfg) (b0 : Addr) (m : List B8) (cm : Nat) (i : Int) (first count : BitVec 64) (wait : List (BitVec 64 × Int)) (w : World)
theorem eoff_v (stamp asked now : Int) (hc : c.ok) (h1 : 0 ≤ stamp ∧ stamp ≤ 1099511627776) (h2 : 0 ≤ asked ∧ asked ≤ now) (h3 : now ≤ 1099511627776) (hP : At w (some ⟨ep, 0, none⟩) (eCs c ⟨some b0, m, cm⟩ i first count wait)) :
    Val Tryz.prog 63 [.pointer (some ⟨ep, 0, none⟩), .int .i64 stamp, .int .i64 asked, .int .i64 now] w (.agg #[.int .i64 (stamp - now), .int .i64 (stamp + (mostX (now - asked) (c.rho + c.slew)).1 - now)]) := by
  have hb := most_bnd (now - asked) (c.rho + c.slew)
  unfold Cfg.ok at hc
  refine val_vc tab_ok Tryz.func63 rfl rfl ?_
  repeat' ((try (conv => whnf)); (first | refine Pick.mk _ (cell_known hP (by simp) rfl) ?_ | refine QuietVC.val (fun w2 h2 => rmost_v (now - asked) (c.rho + c.slew) w2) ?_ | refine Pick.mk pl63_1 (by decide +kernel) ?_ | refine Need.au ?_ | (refine Split.mk (fun hsplit => ?_) (fun hsplit => ?_) <;> (try simp only [List.cons.injEq, and_true, true_and, not_true_eq_false, not_false_eq_true] at hsplit) <;> try (exfalso; omega)) | refine Pick.au ?_ | refine store_au ?_ | refine Any.mk (fun _ => ?_) | refine Both.mk ?_ ?_)); all_goals (try (conv => whnf))
  exact Done.mk rfl
/-- What Hear hands back. -/
def HearL (ep : Nat) (c : Cfg) (b0 : Addr) (m : List B8) (cm : Nat) (i : Int) (first count : BitVec 64) (wait : List (BitVec 64 × Int)) (x : Ans × List B8 × Int × List (BitVec 64 × Int)) (v : Value) (H : Hp) : Prop :=
  ∃ A' c' E', v = .tuple #[x.1.v (.slice A' x.2.1.length c'), .int .i64 x.2.2.1] ∧ x.2.1.length ≤ c' ∧ OwnK A' x.2.1 E' ∧ H.Perm (eE ep c ⟨some b0, m, cm⟩ i first count x.2.2.2 :: E')
def HearR (ep : Nat) (c : Cfg) (b0 : Addr) (m : List B8) (cm : Nat) (i : Int) (first count : BitVec 64) (wait : List (BitVec 64 × Int)) (x : Ans × List B8 × Int × List (BitVec 64 × Int)) (v : Value) (hs2 : Hp) : Prop :=
  ∃ H, List.Sublist H hs2 ∧ HearL ep c b0 m cm i first count wait x v H
theorem ehear_bad (f : Fr) (now : Int) (hc : c.ok) (hw8 : wait.length = 8) (hwt : InTime wait) (hF : At w f.key.a (f.key.l.map b8)) (hd : ∀ a, f.key.a = some a → a.block ∉ [ep]) (hw : St ⟨Tryz.prog, w, [ep]⟩ [eE ep c ⟨some b0, m, cm⟩ i first count wait] w) (hp : ¬ hearP c i now f.s) : Mut Tryz.prog 26 [.pointer (some ⟨ep, 0, none⟩), f.v, .int .i64 now] w [eE ep c ⟨some b0, m, cm⟩ i first count wait] (HearR ep c b0 m cm i first count wait (Ans.zero, [], 1, wait)) := by
  by_cases hk : f.kind = 3 ∧ f.to = i
  · by_cases ho : f.ok
    · have hp2 : ¬ (f.frm < c.n ∧ 0 ≤ now ∧ now ≤ 1099511627776) := fun h => hp ⟨hk.1, hk.2, (ok_s f).2 ho, h⟩
      refine mut_vc tab_ok Tryz.func26 rfl rfl hw ?_
      repeat' ((try (conv => whnf)); (first | refine Need.mk (List.sublist_append_left _ _) ?_ | refine CallVC.val (fun w2 h2 => enone_v ep c b0 m cm i first count wait w2 (at_in (by repeat (first | exact List.Mem.head _ | refine List.Mem.tail _ ?_)) h2)) ?_ | (refine store_frame f (by repeat (first | exact Upd.head _ | apply Upd.tail)) rfl ?_) | refine QuietVC.val (fun w2 h2 => fcheck_yes f ho w2) ?_ | refine QuietVC.ite (fun w2 h2 => etime_v now w2) (fun _ => ?_) (fun _ => ?_) | refine Pick.mk pl26_3 (by decide +kernel) ?_ | refine Pick.mk pl26_5 (by decide +kernel) ?_ | refine Pick.mk pl26_8 (by decide +kernel) ?_ | refine Pick.mk pl26_9 (by decide +kernel) ?_ | refine Pick.mk pl26_12 (by decide +kernel) ?_ | refine Need.au ?_ | (refine Split.mk (fun hsplit => ?_) (fun hsplit => ?_) <;> (try simp only [List.cons.injEq, and_true, true_and, not_true_eq_false, not_false_eq_true] at hsplit) <;> try (exfalso; omega)) | refine Pick.au ?_ | refine store_au ?_ | refine Any.mk (fun _ => ?_) | refine Both.mk ?_ ?_)); all_goals (try (conv => whnf))
      all_goals first | (exfalso; omega) | exact Done.mk ⟨_, (by repeat (first | exact List.Sublist.refl _ | exact List.nil_sublist _ | exact List.sublist_append_right _ _ | refine List.Sublist.trans ?_ (List.sublist_append_left _ _) | refine List.Sublist.cons _ ?_)), none, 0, [], rfl, Nat.le_refl _, OwnK.none, List.Perm.refl _⟩
    · refine mut_vc tab_ok Tryz.func26 rfl rfl hw ?_
      repeat' ((try (conv => whnf)); (first | refine Need.mk (List.sublist_append_left _ _) ?_ | refine CallVC.val (fun w2 h2 => enone_v ep c b0 m cm i first count wait w2 (at_in (by repeat (first | exact List.Mem.head _ | refine List.Mem.tail _ ?_)) h2)) ?_ | (refine store_frame f (by repeat (first | exact Upd.head _ | apply Upd.tail)) rfl ?_) | refine QuietVC.val (fun w2 h2 => fcheck_no f ho w2) ?_ | refine Pick.mk pl26_3 (by decide +kernel) ?_ | refine Pick.mk pl26_5 (by decide +kernel) ?_ | refine Pick.mk pl26_8 (by decide +kernel) ?_ | refine Pick.mk pl26_9 (by decide +kernel) ?_ | refine Pick.mk pl26_12 (by decide +kernel) ?_ | refine Need.au ?_ | (refine Split.mk (fun hsplit => ?_) (fun hsplit => ?_) <;> (try simp only [List.cons.injEq, and_true, true_and, not_true_eq_false, not_false_eq_true] at hsplit) <;> try (exfalso; omega)) | refine Pick.au ?_ | refine store_au ?_ | refine Any.mk (fun _ => ?_) | refine Both.mk ?_ ?_)); all_goals (try (conv => whnf))
      all_goals first | (exfalso; omega) | exact Done.mk ⟨_, (by repeat (first | exact List.Sublist.refl _ | exact List.nil_sublist _ | exact List.sublist_append_right _ _ | refine List.Sublist.trans ?_ (List.sublist_append_left _ _) | refine List.Sublist.cons _ ?_)), none, 0, [], rfl, Nat.le_refl _, OwnK.none, List.Perm.refl _⟩
  · refine mut_vc tab_ok Tryz.func26 rfl rfl hw ?_
    repeat' ((try (conv => whnf)); (first | refine Need.mk (List.sublist_append_left _ _) ?_ | refine CallVC.val (fun w2 h2 => enone_v ep c b0 m cm i first count wait w2 (at_in (by repeat (first | exact List.Mem.head _ | refine List.Mem.tail _ ?_)) h2)) ?_ | (refine store_frame f (by repeat (first | exact Upd.head _ | apply Upd.tail)) rfl ?_) | refine Pick.mk pl26_3 (by decide +kernel) ?_ | refine Pick.mk pl26_5 (by decide +kernel) ?_ | refine Pick.mk pl26_8 (by decide +kernel) ?_ | refine Pick.mk pl26_9 (by decide +kernel) ?_ | refine Pick.mk pl26_12 (by decide +kernel) ?_ | refine Need.au ?_ | (refine Split.mk (fun hsplit => ?_) (fun hsplit => ?_) <;> (try simp only [List.cons.injEq, and_true, true_and, not_true_eq_false, not_false_eq_true] at hsplit) <;> try (exfalso; omega)) | refine Pick.au ?_ | refine store_au ?_ | refine Any.mk (fun _ => ?_) | refine Both.mk ?_ ?_)); all_goals (try (conv => whnf))
    all_goals first | (exfalso; omega) | exact Done.mk ⟨_, (by repeat (first | exact List.Sublist.refl _ | exact List.nil_sublist _ | exact List.sublist_append_right _ _ | refine List.Sublist.trans ?_ (List.sublist_append_left _ _) | refine List.Sublist.cons _ ?_)), none, 0, [], rfl, Nat.le_refl _, OwnK.none, List.Perm.refl _⟩
abbrev missI (n : BitVec 64) (t : Int) (x : BitVec 64) (now : Int) : Prop := ((n.toNat : Int) = 0 ∧ t = 0) ∨ ¬ ((n.toNat : Int) = (x.toNat : Int)) ∨ now < t
theorem ehear_none (f : Fr) (now : Int) (hc : c.ok) (hw8 : wait.length = 8) (hwt : InTime wait) (hF : At w f.key.a (f.key.l.map b8)) (hd : ∀ a, f.key.a = some a → a.block ∉ [ep]) (hw : St ⟨Tryz.prog, w, [ep]⟩ [eE ep c ⟨some b0, m, cm⟩ i first count wait] w) (hp : hearP c i now f.s) (n : BitVec 64) (t : Int) (hq : wait.getD f.frm.toNat (0, 0) = (n, t)) (hm : missI n t f.nonce now) : Mut Tryz.prog 26 [.pointer (some ⟨ep, 0, none⟩), f.v, .int .i64 now] w [eE ep c ⟨some b0, m, cm⟩ i first count wait] (HearR ep c b0 m cm i first count wait (Ans.zero, [], 6, wait)) := by
  obtain ⟨h1, h2', h3, h4, h5⟩ := hp
  have h1 : f.kind = 3 := h1
  have h2' : f.to = i := h2'
  have h4 : f.frm < c.n := h4
  have ho : f.ok := (ok_s f).1 h3
  have hok := ho
  unfold Fr.ok at hok
  obtain ⟨⟨hfr, _, _, _, _, _, _, hst1, hst2, _⟩, hri⟩ := hok
  have hk16 : f.key.l.length = 16 := by omega
  have hcc := hc
  unfold Cfg.ok at hcc
  have hj : f.frm.toNat < wait.length := by omega
  have ht : 0 ≤ t ∧ t ≤ 1099511627776 := by have := hwt.at f.frm.toNat; rw [hq] at this; exact this
  have hr : ∀ (G : Cx) (hs : Hp), eE ep c ⟨some b0, m, cm⟩ i first count wait ∈ hs → [w64 n, .int .i64 t].length = 2 ∧ G.cellsAre hs (Addr.add ⟨ep, 14, none⟩ (f.frm.toNat * 2)) [w64 n, .int .i64 t] := fun G hs hm => by have := wait_own (G := G) (hs := hs) hm hj; rw [hq] at this; exact this
  refine mut_vc tab_ok Tryz.func26 rfl rfl hw ?_
  repeat' ((try (conv => whnf)); (first | refine Need.mk (List.sublist_append_left _ _) ?_ | refine CallVC.val (fun w2 h2 => enone_v ep c b0 m cm i first count wait w2 (at_in (by repeat (first | exact List.Mem.head _ | refine List.Mem.tail _ ?_)) h2)) ?_ | (refine store_frame f (by repeat (first | exact Upd.head _ | apply Upd.tail)) rfl ?_) | refine QuietVC.val (fun w2 h2 => fcheck_yes f ho w2) ?_ | refine QuietVC.ite (fun w2 h2 => etime_v now w2) (fun _ => ?_) (fun hx => absurd h5 hx) | refine Pick.mk _ (hr _ _ (by repeat (first | exact List.Mem.head _ | refine List.Mem.tail _ ?_))) ?_ | refine Pick.mk pl26_3 (by decide +kernel) ?_ | refine Pick.mk pl26_5 (by decide +kernel) ?_ | refine Pick.mk pl26_8 (by decide +kernel) ?_ | refine Pick.mk pl26_9 (by decide +kernel) ?_ | refine Pick.mk pl26_12 (by decide +kernel) ?_ | refine Need.au ?_ | (refine Split.mk (fun hsplit => ?_) (fun hsplit => ?_) <;> (try simp only [List.cons.injEq, and_true, true_and, not_true_eq_false, not_false_eq_true] at hsplit) <;> try (exfalso; omega)) | refine Pick.au ?_ | refine store_au ?_ | refine Any.mk (fun _ => ?_) | refine Both.mk ?_ ?_)); all_goals (try (conv => whnf))
  all_goals exact Done.mk ⟨_, (by repeat (first | exact List.Sublist.refl _ | exact List.nil_sublist _ | exact List.sublist_append_right _ _ | refine List.Sublist.trans ?_ (List.sublist_append_left _ _) | refine List.Sublist.cons _ ?_)), none, 0, [], rfl, Nat.le_refl _, OwnK.none, List.Perm.refl _⟩
theorem ehear_late (f : Fr) (now : Int) (hc : c.ok) (hw8 : wait.length = 8) (hwt : InTime wait) (hF : At w f.key.a (f.key.l.map b8)) (hd : ∀ a, f.key.a = some a → a.block ∉ [ep]) (hw : St ⟨Tryz.prog, w, [ep]⟩ [eE ep c ⟨some b0, m, cm⟩ i first count wait] w) (hp : hearP c i now f.s) (n : BitVec 64) (t : Int) (hq : wait.getD f.frm.toNat (0, 0) = (n, t)) (hm : ¬ missI n t f.nonce now) (hl : c.win < now - t) : Mut Tryz.prog 26 [.pointer (some ⟨ep, 0, none⟩), f.v, .int .i64 now] w [eE ep c ⟨some b0, m, cm⟩ i first count wait] (HearR ep c b0 m cm i first count wait (Ans.zero, [], 12, wait.set f.frm.toNat (0, 0))) := by
  obtain ⟨h1, h2', h3, h4, h5⟩ := hp
  have h1 : f.kind = 3 := h1
  have h2' : f.to = i := h2'
  have h4 : f.frm < c.n := h4
  have ho : f.ok := (ok_s f).1 h3
  have hok := ho
  unfold Fr.ok at hok
  obtain ⟨⟨hfr, _, _, _, _, _, _, hst1, hst2, _⟩, hri⟩ := hok
  have hk16 : f.key.l.length = 16 := by omega
  have hcc := hc
  unfold Cfg.ok at hcc
  have hj : f.frm.toNat < wait.length := by omega
  have ht : 0 ≤ t ∧ t ≤ 1099511627776 := by have := hwt.at f.frm.toNat; rw [hq] at this; exact this
  have hr : ∀ (G : Cx) (hs : Hp), eE ep c ⟨some b0, m, cm⟩ i first count wait ∈ hs → [w64 n, .int .i64 t].length = 2 ∧ G.cellsAre hs (Addr.add ⟨ep, 14, none⟩ (f.frm.toNat * 2)) [w64 n, .int .i64 t] := fun G hs hm => by have := wait_own (G := G) (hs := hs) hm hj; rw [hq] at this; exact this
  refine mut_vc tab_ok Tryz.func26 rfl rfl hw ?_
  repeat' ((try (conv => whnf)); (first | refine Need.mk (List.sublist_append_left _ _) ?_ | refine CallVC.val (fun w2 h2 => enone_v ep c b0 m cm i first count wait w2 (at_in (by repeat (first | exact List.Mem.head _ | refine List.Mem.tail _ ?_)) h2)) ?_ | (refine store_frame f (by repeat (first | exact Upd.head _ | apply Upd.tail)) rfl ?_) | refine QuietVC.val (fun w2 h2 => fcheck_yes f ho w2) ?_ | refine QuietVC.ite (fun w2 h2 => etime_v now w2) (fun _ => ?_) (fun hx => absurd h5 hx) | refine Pick.mk _ (hr _ _ (by repeat (first | exact List.Mem.head _ | refine List.Mem.tail _ ?_))) ?_ | refine store_wait (n := 0#64) (t := 0) hj (by repeat (first | exact Upd.head _ | apply Upd.tail)) ?_ | refine Pick.mk pl26_3 (by decide +kernel) ?_ | refine Pick.mk pl26_5 (by decide +kernel) ?_ | refine Pick.mk pl26_8 (by decide +kernel) ?_ | refine Pick.mk pl26_9 (by decide +kernel) ?_ | refine Pick.mk pl26_12 (by decide +kernel) ?_ | refine Need.au ?_ | (refine Split.mk (fun hsplit => ?_) (fun hsplit => ?_) <;> (try simp only [List.cons.injEq, and_true, true_and, not_true_eq_false, not_false_eq_true] at hsplit) <;> try (exfalso; omega)) | refine Pick.au ?_ | refine store_au ?_ | refine Any.mk (fun _ => ?_) | refine Both.mk ?_ ?_)); all_goals (try (conv => whnf))
  all_goals exact Done.mk ⟨_, (by repeat (first | exact List.Sublist.refl _ | exact List.nil_sublist _ | exact List.sublist_append_right _ _ | refine List.Sublist.trans ?_ (List.sublist_append_left _ _) | refine List.Sublist.cons _ ?_)), none, 0, [], rfl, Nat.le_refl _, OwnK.none, List.Perm.refl _⟩
theorem ehear_yes (f : Fr) (now : Int) (hc : c.ok) (hw8 : wait.length = 8) (hwt : InTime wait) (hF : At w f.key.a (f.key.l.map b8)) (hd : ∀ a, f.key.a = some a → a.block ∉ [ep]) (hw : St ⟨Tryz.prog, w, [ep]⟩ [eE ep c ⟨some b0, m, cm⟩ i first count wait] w) (hp : hearP c i now f.s) (n : BitVec 64) (t : Int) (hq : wait.getD f.frm.toNat (0, 0) = (n, t)) (hm : ¬ missI n t f.nonce now) (hl : ¬ c.win < now - t) : Mut Tryz.prog 26 [.pointer (some ⟨ep, 0, none⟩), f.v, .int .i64 now] w [eE ep c ⟨some b0, m, cm⟩ i first count wait] (HearR ep c b0 m cm i first count wait (ansOf c f.s t now, f.key.l, 0, wait.set f.frm.toNat (0, 0))) := by
  obtain ⟨h1, h2', h3, h4, h5⟩ := hp
  have h1 : f.kind = 3 := h1
  have h2' : f.to = i := h2'
  have h4 : f.frm < c.n := h4
  have ho : f.ok := (ok_s f).1 h3
  have hok := ho
  unfold Fr.ok at hok
  obtain ⟨⟨hfr, _, _, _, _, _, _, hst1, hst2, _⟩, hri⟩ := hok
  have hk16 : f.key.l.length = 16 := by omega
  have hcc := hc
  unfold Cfg.ok at hcc
  have hj : f.frm.toNat < wait.length := by omega
  have ht : 0 ≤ t ∧ t ≤ 1099511627776 := by have := hwt.at f.frm.toNat; rw [hq] at this; exact this
  have hr : ∀ (G : Cx) (hs : Hp), eE ep c ⟨some b0, m, cm⟩ i first count wait ∈ hs → [w64 n, .int .i64 t].length = 2 ∧ G.cellsAre hs (Addr.add ⟨ep, 14, none⟩ (f.frm.toNat * 2)) [w64 n, .int .i64 t] := fun G hs hm => by have := wait_own (G := G) (hs := hs) hm hj; rw [hq] at this; exact this
  refine mut_vc tab_ok Tryz.func26 rfl rfl hw ?_
  repeat' ((try (conv => whnf)); (first | refine Need.mk (List.sublist_append_left _ _) ?_ | refine CallVC.val (fun w2 h2 => enone_v ep c b0 m cm i first count wait w2 (at_in (by repeat (first | exact List.Mem.head _ | refine List.Mem.tail _ ?_)) h2)) ?_ | (refine store_frame f (by repeat (first | exact Upd.head _ | apply Upd.tail)) rfl ?_) | refine QuietVC.val (fun w2 h2 => fcheck_yes f ho w2) ?_ | refine QuietVC.ite (fun w2 h2 => etime_v now w2) (fun _ => ?_) (fun hx => absurd h5 hx) | refine Pick.mk _ (hr _ _ (by repeat (first | exact List.Mem.head _ | refine List.Mem.tail _ ?_))) ?_ | refine store_wait (n := 0#64) (t := 0) hj (by repeat (first | exact Upd.head _ | apply Upd.tail)) ?_ | refine CallVC.val (fun w2 h2 => eoff_v ep c b0 m cm i first count (wait.set f.frm.toNat (0, 0)) w2 f.stamp t now hc ⟨hst1, hst2⟩ ⟨ht.1, by omega⟩ h5.2 (at_in (by repeat (first | exact List.Mem.head _ | refine List.Mem.tail _ ?_)) h2)) ?_ | (refine AppendVC.nil (xs := f.key.l.map b8) tab_ok ap8 (Holds.at (by rw [List.length_map]) hF hd) (by show (2 * _ + 192) * 1 ≤ _; omega) (fun h0 => by omega) (fun _ b2 c2 hc2 => ?_)) | refine Pick.mk pl26_3 (by decide +kernel) ?_ | refine Pick.mk pl26_5 (by decide +kernel) ?_ | refine Pick.mk pl26_8 (by decide +kernel) ?_ | refine Pick.mk pl26_9 (by decide +kernel) ?_ | refine Pick.mk pl26_12 (by decide +kernel) ?_ | refine Need.au ?_ | (refine Split.mk (fun hsplit => ?_) (fun hsplit => ?_) <;> (try simp only [List.cons.injEq, and_true, true_and, not_true_eq_false, not_false_eq_true] at hsplit) <;> try (exfalso; omega)) | refine Pick.au ?_ | refine store_au ?_ | refine Any.mk (fun _ => ?_) | refine Both.mk ?_ ?_)); all_goals (try (conv => whnf))
  exact Done.mk ⟨[_, _], List.Sublist.cons_cons _ (List.Sublist.cons _ (List.Sublist.cons _ (List.Sublist.cons _ (List.Sublist.cons_cons _ (List.nil_sublist _))))), some ⟨b2, 0, none⟩, c2, _, rfl, hc2, OwnK.row b2 f.key.l _ _, List.Perm.swap _ _ []⟩
end
end
section
set_option linter.unusedVariables false
set_option linter.unusedSimpArgs false
set_option maxRecDepth 100000
set_option maxHeartbeats 8000000
open Go
attribute [local irreducible] bitsOf shlOf shrOf pack numBits bytesBits coreBits crcSum tagOf macKey FrS.ok frameBytes sealX getX holdsX mostX
theorem miss_iff {n : BitVec 64} {t : Int} {s : FrS} {now : Int} : missP (n, t) s now ↔ missI n t s.nonce now := by
  have e1 : ((n, t) : BitVec 64 × Int) = (0, 0) ↔ ((n.toNat : Int) = 0 ∧ t = 0) := by
    rw [Prod.mk.injEq]
    constructor
    · rintro ⟨rfl, rfl⟩; exact ⟨rfl, rfl⟩
    · rintro ⟨h1, h2⟩; exact ⟨BitVec.eq_of_toNat_eq (by show _ = 0; omega), h2⟩
  have e2 : n = s.nonce ↔ ((n.toNat : Int) = (s.nonce.toNat : Int)) := ⟨fun h => by rw [h], fun h => BitVec.eq_of_toNat_eq (by omega)⟩
  show ((n, t) : BitVec 64 × Int) = (0, 0) ∨ n ≠ s.nonce ∨ now < t ↔ _
  rw [e1, ne_eq, e2]
theorem ehear_m (ep : Nat) (c : Cfg) (b0 : Addr) (m : List B8) (cm : Nat) (i : Int) (first count : BitVec 64) (wait : List (BitVec 64 × Int)) (w : World) (f : Fr) (now : Int) (hc : c.ok) (hw8 : wait.length = 8) (hwt : InTime wait) (hF : At w f.key.a (f.key.l.map b8)) (hd : ∀ a, f.key.a = some a → a.block ∉ [ep]) (hw : St ⟨Tryz.prog, w, [ep]⟩ [eE ep c ⟨some b0, m, cm⟩ i first count wait] w) :
    Mut Tryz.prog 26 [.pointer (some ⟨ep, 0, none⟩), f.v, .int .i64 now] w [eE ep c ⟨some b0, m, cm⟩ i first count wait] (HearR ep c b0 m cm i first count wait (hearX c i wait f.s now)) := by
  unfold hearX
  by_cases hp : hearP c i now f.s
  · rw [if_pos hp]
    obtain ⟨n, t, hq⟩ : ∃ n t, wait.getD f.s.frm.toNat (0, 0) = (n, t) := ⟨_, _, rfl⟩
    rw [hq]
    by_cases hm : missP (n, t) f.s now
    · rw [if_pos hm]
      exact ehear_none ep c b0 m cm i first count wait w f now hc hw8 hwt hF hd hw hp n t hq (miss_iff.1 hm)
    · rw [if_neg hm]
      have hm2 : ¬ missI n t f.nonce now := fun h => hm (miss_iff.2 h)
      by_cases hl : c.win < now - t
      · rw [if_pos hl]
        exact ehear_late ep c b0 m cm i first count wait w f now hc hw8 hwt hF hd hw hp n t hq hm2 hl
      · rw [if_neg hl]
        exact ehear_yes ep c b0 m cm i first count wait w f now hc hw8 hwt hF hd hw hp n t hq hm2 hl
  · rw [if_neg hp]
    exact ehear_bad ep c b0 m cm i first count wait w f now hc hw8 hwt hF hd hw hp
section
variable {G : Cx} {hs : Hp} {K : Value → Hp → Prop} {c : Cfg} {m : List B8} {i : Int}
theorem CallVC.newE {inc : Int} {f : Nat} {args : List Value} (hc : ∀ w, St G hs w → Ret G.P f args w (NewE c m i inc))
    (hk : ∀ ep mb r fr cm, m.length ≤ cm → K (.tuple #[.pointer (some ⟨ep, 0, none⟩), .int .i64 0]) (eE ep c ⟨some ⟨mb, 0, none⟩, m, cm⟩ i (firstOf inc) 0#64 wait0 :: ⟨mb, m.map b8 ++ r, 5, fr⟩ :: hs)) : CallVC G hs f args K := by
  refine CallVC.ofW hc ?_
  rintro v hs2 ⟨ep, mb, r, fr, cm, rfl, hcm, hsub⟩
  exact ⟨_, hsub, hk ep mb r fr cm hcm⟩
variable {ep mb cm : Nat} {first count : BitVec 64} {wait : List (BitVec 64 × Int)} {r : List Value} {fr : Nat × Nat} {r1 : Hp}
theorem CallVC.askW {to now : Int} {x : List B8 × Int} (hP : G.P = Tryz.prog) (h1 : Take (eE ep c ⟨some ⟨mb, 0, none⟩, m, cm⟩ i first count wait) hs r1) (hm : (⟨mb, m.map b8 ++ r, 5, fr⟩ : Ent) ∈ r1) (hcm : m.length ≤ cm) (hcn : c.n ≤ 8) (hw8 : wait.length = 8) (hmay : mayAsk c i to now count)
    (hx : sealX (pingS i to (first + (count + 1#64))) (pairOf m i to).1 = x)
    (hk : ∀ A' c' E', Own A' x.1 c' E' → K (.tuple #[.slice A' x.1.length c', .int .i64 x.2]) (eE ep c ⟨some ⟨mb, 0, none⟩, m, cm⟩ i first (count + 1#64) (wait.set to.toNat (first + (count + 1#64), now)) :: (r1 ++ E'))) : CallVC G hs 23 [.pointer (some ⟨ep, 0, none⟩), .int .i64 to, .int .i64 now] K := by
  subst hx
  have hpp : hs.Perm ([eE ep c ⟨some ⟨mb, 0, none⟩, m, cm⟩ i first count wait] ++ r1) := h1.perm
  refine CallVC.mutP [eE ep c ⟨some ⟨mb, 0, none⟩, m, cm⟩ i first count wait] r1 hpp (fun w2 h2 h3 => hP ▸ eask_m ep c ⟨mb, 0, none⟩ m cm i first count wait to now hcm hcn hw8 hmay w2 (at_pre (h1.perm.mem_iff.2 (List.mem_cons_of_mem _ hm)) h2) (apart_rest h2 hpp hm) (hP ▸ h3)) ?_
  rintro v H ⟨A', c', E', rfl, hO, rfl⟩
  exact ⟨_, List.Perm.cons _ List.perm_append_comm, hk A' c' E' hO⟩
theorem CallVC.hearW {f : Fr} {Ef : Hp} {now : Int} {x : Ans × List B8 × Int × List (BitVec 64 × Int)} (hP : G.P = Tryz.prog) (h1 : Take (eE ep c ⟨some ⟨mb, 0, none⟩, m, cm⟩ i first count wait) hs r1) (hO : FOwn f Ef) (hE : List.Sublist Ef r1) (hc : c.ok) (hw8 : wait.length = 8) (hwt : InTime wait)
    (hx : hearX c i wait f.s now = x)
    (hk : ∀ A' c' E', x.2.1.length ≤ c' → OwnK A' x.2.1 E' → K (.tuple #[x.1.v (.slice A' x.2.1.length c'), .int .i64 x.2.2.1]) (eE ep c ⟨some ⟨mb, 0, none⟩, m, cm⟩ i first count x.2.2.2 :: (r1 ++ E'))) : CallVC G hs 26 [.pointer (some ⟨ep, 0, none⟩), f.v, .int .i64 now] K := by
  subst hx
  have hE2 : List.Sublist Ef (eE ep c ⟨some ⟨mb, 0, none⟩, m, cm⟩ i first count wait :: r1) := hE.cons _
  obtain ⟨E1, E2, E3, o1, o2, o3, rfl⟩ := id hO
  have hE1 : List.Sublist E1 r1 := ((List.sublist_append_left _ _).trans (List.sublist_append_left _ _)).trans hE
  have hpp : hs.Perm ([eE ep c ⟨some ⟨mb, 0, none⟩, m, cm⟩ i first count wait] ++ r1) := h1.perm
  refine CallVC.mutP [eE ep c ⟨some ⟨mb, 0, none⟩, m, cm⟩ i first count wait] r1 hpp (fun w2 h2 h3 => hP ▸ ehear_m ep c ⟨mb, 0, none⟩ m cm i first count wait w2 f now hc hw8 hwt (fown_at hO hE2 (h2.perm h1.perm)).key (own_apart o1 hE1 h2 hpp) (hP ▸ h3)) ?_
  rintro v H ⟨A', c', E', rfl, hl, hO', hp⟩
  exact ⟨_, (hp.append_right r1).trans (List.Perm.cons _ List.perm_append_comm), hk A' c' E' hl hO'⟩
theorem CallVC.forgetW (hP : G.P = Tryz.prog) (h1 : Take (eE ep c ⟨some ⟨mb, 0, none⟩, m, cm⟩ i first count wait) hs r1) (hw8 : wait.length = 8)
    (hk : ∀ v, K v (eE ep c ⟨some ⟨mb, 0, none⟩, m, cm⟩ i first count wait0 :: r1)) : CallVC G hs 27 [.pointer (some ⟨ep, 0, none⟩)] K := by
  refine CallVC.mutP [eE ep c ⟨some ⟨mb, 0, none⟩, m, cm⟩ i first count wait] r1 h1.perm (fun w2 h2 h3 => hP ▸ eforget_m ep c ⟨mb, 0, none⟩ m cm i first count wait hw8 w2 (hP ▸ h3)) ?_
  rintro v H rfl
  exact ⟨_, List.Perm.refl _, hk v⟩
end
/-- The config of the statements. -/
abbrev usualC : Cfg := ⟨3, 0, 400, 1, 16, 400, 400, 1, 2, 8⟩
theorem usual_ok : usualC.ok := by unfold Cfg.ok; decide
theorem usual_in : usualC.In := by constructor <;> exact ⟨by decide, by decide⟩
theorem usual_v (w : World) : Val Tryz.prog 29 [] w usualC.v := by
  refine val_vc tab_ok Tryz.func29 rfl rfl ?_
  repeat' ((try (conv => whnf)); (first | refine Need.au ?_ | (refine Split.mk (fun hsplit => ?_) (fun hsplit => ?_) <;> (try simp only [List.cons.injEq, and_true, true_and, not_true_eq_false, not_false_eq_true] at hsplit) <;> try (exfalso; omega)) | refine Pick.au ?_ | refine store_au ?_ | refine Any.mk (fun _ => ?_) | refine Both.mk ?_ ?_)); all_goals (try (conv => whnf))
  exact Done.mk rfl
theorem awake23_v (w : World) : Val Tryz.prog 31 [] w (.bool true) := by
  have hk := pair16 (m := zero16) (i := 1) (j := 2) rfl (by decide) (by decide) (by decide)
  have hs := seal_own hk (ping_ok (i := 1) (to := 2) (n := firstOf 5 + (0#64 + 1#64)) (by decide) (by decide) (by decide))
  have hl := ping_len (s := (pingS 1 2 (firstOf 5 + (0#64 + 1#64))).withTag (tagOf (pingS 1 2 (firstOf 5 + (0#64 + 1#64))) (pairOf zero16 1 2).1)) rfl (tagOf_len _ _)
  have hwn : otherP usualC 1 2 ∧ (wait0.set (2 : Int).toNat (firstOf 5 + (0#64 + 1#64), 7)).getD (2 : Int).toNat (0, 0) ≠ (0, 0) := ⟨by decide, by decide⟩
  refine val_vc tab_ok Tryz.func31 rfl rfl ?_
  repeat' ((try (conv => whnf)); (first | refine Pick.mk pm31_1 (by decide +kernel) ?_ | refine QuietVC.val (fun w2 h2 => usual_v w2) ?_ | refine CallVC.val (fun w2 h2 => usual_v w2) ?_ | (refine CallVC.newE (fun w2 h2 => enew_yes usualC usual_in _ zero16 16 1 5 ⟨usual_ok, by decide, by decide, rfl⟩ w2 (at_own (off := 0) (by repeat (first | exact List.Mem.head _ | refine List.Mem.tail _ ?_)) h2 (fun i v hv => by rw [Nat.zero_add]; exact hv))) (fun ep mb r fr cm hcm => ?_)) | (refine CallVC.askW rfl (by repeat (first | exact Take.head _ | apply Take.tail)) (by repeat (first | exact List.Mem.head _ | refine List.Mem.tail _ ?_)) hcm (by decide) rfl (by decide) hs (fun A1 c1 E1 hO1 => ?_)) | (refine CallVC.val (v := .bool true) (fun w2 h2 => by have := easked_v ep usualC ⟨mb, 0, none⟩ zero16 cm 1 (firstOf 5) (0#64 + 1#64) (wait0.set (2 : Int).toNat (firstOf 5 + (0#64 + 1#64), 7)) w2 2 (by decide) rfl (at_in (by repeat (first | exact List.Mem.head _ | refine List.Mem.tail _ ?_)) h2); rwa [if_pos hwn] at this) ?_) | refine Pick.mk pl31_1 (by decide +kernel) ?_ | refine Need.au ?_ | (refine Split.mk (fun hsplit => ?_) (fun hsplit => ?_) <;> (try simp only [List.cons.injEq, and_true, true_and, not_true_eq_false, not_false_eq_true] at hsplit) <;> try (exfalso; omega)) | refine Pick.au ?_ | refine store_au ?_ | refine Any.mk (fun _ => ?_) | refine Both.mk ?_ ?_)); all_goals (try (conv => whnf))
  all_goals exact Done.mk rfl
end
end Go.Proofs.YtnlheljpagpiiaaGreat
