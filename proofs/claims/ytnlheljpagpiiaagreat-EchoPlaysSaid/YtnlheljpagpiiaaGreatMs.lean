/-
  A node that asks, in the program: a question; none waits; every input. A node that opens, in the program; one that asks not; every input. A node that answers, in the program; every input.
-/
import Derived.Test.YtnlheljpagpiiaaGreatMr
import Derived.Test.YtnlheljpagpiiaaGreatIb
namespace Go.Proofs.YtnlheljpagpiiaaGreat
section
set_option linter.unusedVariables false
set_option linter.unusedSimpArgs false
set_option maxRecDepth 100000
set_option maxHeartbeats 8000000
open Go
attribute [local irreducible] bitsOf shlOf shrOf
theorem eforget_m (ep : Nat) (c : Cfg) (b0 : Addr) (m : List B8) (cm : Nat) (i : Int) (first count : BitVec 64) (wait : List (BitVec 64 × Int)) (hw8 : wait.length = 8) (w : World) (hw : St ⟨Tryz.prog, w, [ep]⟩ [eE ep c ⟨some b0, m, cm⟩ i first count wait] w) :
    Mut Tryz.prog 27 [.pointer (some ⟨ep, 0, none⟩)] w [eE ep c ⟨some b0, m, cm⟩ i first count wait] fun v hs2 => ∃ H, List.Sublist H hs2 ∧ H = [eE ep c ⟨some b0, m, cm⟩ i first count wait0] := by
  refine mut_vc tab_ok Tryz.func27 rfl rfl hw ?_
  repeat' ((try (conv => whnf)); (first | refine CallVC.val (fun w2 h2 => enone_v ep c b0 m cm i first count wait w2 (at_in (List.Mem.head _) h2)) ?_ | refine store_none hw8 (by repeat (first | exact Upd.head _ | apply Upd.tail)) ?_ | refine Need.au ?_ | (refine Split.mk (fun hsplit => ?_) (fun hsplit => ?_) <;> (try simp only [List.cons.injEq, and_true, true_and, not_true_eq_false, not_false_eq_true] at hsplit) <;> try (exfalso; omega)) | refine Pick.au ?_ | refine store_au ?_ | refine Any.mk (fun _ => ?_) | refine Both.mk ?_ ?_)); all_goals (try (conv => whnf))
  all_goals exact Done.mk ⟨_, List.Sublist.refl _, rfl⟩
/-- A ping, as a frame. -/
def pingS (i to : Int) (n : BitVec 64) : FrS := ⟨2, i, to, 0, 0, 0, n, 0, 0, 0, [], [], []⟩
abbrev mayAsk (c : Cfg) (i to now : Int) (count : BitVec 64) : Prop := (otherP c i to ∧ 0 ≤ now ∧ now ≤ 1099511627776) ∧ (count.toNat : Int) < 4294967295
theorem eask_m (ep : Nat) (c : Cfg) (b0 : Addr) (m : List B8) (cm : Nat) (i : Int) (first count : BitVec 64) (wait : List (BitVec 64 × Int)) (to now : Int) (hcm : m.length ≤ cm) (hcn : c.n ≤ 8) (hw8 : wait.length = 8) (hm : mayAsk c i to now count) (w : World) (hM : At w (some b0) (m.map b8)) (hd : b0.block ∉ [ep]) (hw : St ⟨Tryz.prog, w, [ep]⟩ [eE ep c ⟨some b0, m, cm⟩ i first count wait] w) :
    Mut Tryz.prog 23 [.pointer (some ⟨ep, 0, none⟩), .int .i64 to, .int .i64 now] w [eE ep c ⟨some b0, m, cm⟩ i first count wait] fun v hs2 => ∃ H, List.Sublist H hs2 ∧ ∃ A' c' E', v = .tuple #[.slice A' (sealX (pingS i to (first + (count + 1#64))) (pairOf m i to).1).1.length c', .int .i64 (sealX (pingS i to (first + (count + 1#64))) (pairOf m i to).1).2] ∧ Own A' (sealX (pingS i to (first + (count + 1#64))) (pairOf m i to).1).1 c' E' ∧
      H = eE ep c ⟨some b0, m, cm⟩ i first (count + 1#64) (wait.set to.toNat (first + (count + 1#64), now)) :: E' := by
  obtain ⟨⟨ho, hn⟩, hc⟩ := hm
  have hj : to.toNat < wait.length := by omega
  refine mut_vc tab_ok Tryz.func23 rfl rfl hw ?_
  repeat' ((try (conv => whnf)); (first | refine Pick.mk pm23_11 (by decide +kernel) ?_ | refine Need.mk (List.sublist_append_left _ _) ?_ | refine CallVC.val (fun w2 h2 => enone_v ep c b0 m cm i first count wait w2 (at_in (List.Mem.head _) h2)) ?_ | refine CallVC.ite (fun w2 h2 => eother_v ep c b0 m cm i first count wait w2 to (at_in (List.Mem.head _) h2)) (fun _ => ?_) (fun hx => absurd ho hx) | refine CallVC.ite (fun w2 h2 => etime_v now w2) (fun _ => ?_) (fun hx => absurd hn hx) | refine Pick.mk _ (add_u64 count 1#64) ?_ | refine Pick.mk _ (add_u64 first (count + 1#64)) ?_ | refine store_wait hj (by repeat (first | exact Upd.head _ | apply Upd.tail)) ?_ | (refine CallVC.givesYt (fun w2 h2 => epair_r ep c b0 m cm i first (count + 1#64) (wait.set to.toNat (first + (count + 1#64), now)) w2 to hcm (at_in (by repeat (first | exact List.Mem.head _ | refine List.Mem.tail _ ?_)) h2) (hM.here h2 (fun a ha => by cases ha; exact hd))) (fun Ak ck Ek hlk hOk => ?_)) | (refine CallVC.givesXt (fun w2 h2 => seal_r ⟨2, i, to, 0, 0, 0, first + (count + 1#64), 0, 0, 0, slNil, slNil, slNil⟩ Ak (pairOf m i to).1 ck hlk w2 (ownK_at (own_k hOk) (by repeat (first | exact List.Sublist.refl _ | exact List.nil_sublist _ | exact List.sublist_append_right _ _ | refine List.Sublist.trans ?_ (List.sublist_append_left _ _) | refine List.Sublist.cons _ ?_)) h2) ⟨At.nil, At.nil, At.nil⟩) (fun A' c' E' hl' hO' => ?_)) | refine Pick.mk pl23_9 (by decide +kernel) ?_ | refine Pick.mk pl23_10 (by decide +kernel) ?_ | refine Pick.mk pl23_11 (by decide +kernel) ?_ | refine Need.au ?_ | (refine Split.mk (fun hsplit => ?_) (fun hsplit => ?_) <;> (try simp only [List.cons.injEq, and_true, true_and, not_true_eq_false, not_false_eq_true] at hsplit) <;> try (exfalso; omega)) | refine Pick.au ?_ | refine store_au ?_ | refine Any.mk (fun _ => ?_) | refine Both.mk ?_ ?_)); all_goals (try (conv => whnf))
  exact Done.mk ⟨_, List.Sublist.cons _ (List.Sublist.cons_cons _ (List.sublist_append_right Ek E')), A', c', E', rfl, hO', rfl⟩
end
section
set_option linter.unusedVariables false
set_option linter.unusedSimpArgs false
set_option maxRecDepth 100000
set_option maxHeartbeats 8000000
open Go
/-- What a node opens. -/
def openE (m : List B8) (i : Int) (l : List B8) : FrS × Int :=
  if (getX l).2 = 0 then (if (getX l).1.kind = 1 ∨ (getX l).1.to ≠ i then (FrS.zero, 1) else (if holdsX (getX l).1 (pairOf m i (getX l).1.frm).1 = true then ((getX l).1, 0) else (FrS.zero, 13))) else (FrS.zero, (getX l).2)
attribute [local irreducible] bitsOf shlOf shrOf pack numBits bytesBits coreBits crcSum tagOf macKey FrS.ok frameBytes sealX getX holdsX
section
variable (ep : Nat) (c : Cfg) (b0 : Addr) (m : List B8) (cm : Nat) (i : Int) (first count : BitVec 64) (wait : List (BitVec 64 × Int)) (w : World)
theorem eask_no (to now : Int) (hm : ¬ mayAsk c i to now count) (hP : At w (some ⟨ep, 0, none⟩) (eCs c ⟨some b0, m, cm⟩ i first count wait)) :
    Ret Tryz.prog 23 [.pointer (some ⟨ep, 0, none⟩), .int .i64 to, .int .i64 now] w (GivesX [] (if otherP c i to ∧ 0 ≤ now ∧ now ≤ 1099511627776 then 9 else 1)) := by
  by_cases ho : otherP c i to
  · by_cases hn : 0 ≤ now ∧ now ≤ 1099511627776
    · rw [if_pos ⟨ho, hn⟩]
      have hc : ¬ (count.toNat : Int) < 4294967295 := fun h => hm ⟨⟨ho, hn⟩, h⟩
      refine ret_vc tab_ok Tryz.func23 rfl rfl ?_
      repeat' ((try (conv => whnf)); (first | refine Pick.mk pm23_11 (by decide +kernel) ?_ | refine CallVC.val (fun w2 h2 => enone_v ep c b0 m cm i first count wait w2 (hP.here h2 (fun _ _ => by simp))) ?_ | refine CallVC.ite (fun w2 h2 => eother_v ep c b0 m cm i first count wait w2 to (hP.here h2 (fun _ _ => by simp))) (fun _ => ?_) (fun hx => absurd ho hx) | refine CallVC.ite (fun w2 h2 => etime_v now w2) (fun _ => ?_) (fun hx => absurd hn hx) | refine Pick.mk _ (cell_known hP (by simp) rfl) ?_ | refine Pick.mk pl23_9 (by decide +kernel) ?_ | refine Pick.mk pl23_10 (by decide +kernel) ?_ | refine Pick.mk pl23_11 (by decide +kernel) ?_ | refine Need.au ?_ | (refine Split.mk (fun hsplit => ?_) (fun hsplit => ?_) <;> (try simp only [List.cons.injEq, and_true, true_and, not_true_eq_false, not_false_eq_true] at hsplit) <;> try (exfalso; omega)) | refine Pick.au ?_ | refine store_au ?_ | refine Any.mk (fun _ => ?_) | refine Both.mk ?_ ?_)); all_goals (try (conv => whnf))
      all_goals exact Done.mk GivesX.no
    · rw [if_neg (fun h => hn h.2)]
      refine ret_vc tab_ok Tryz.func23 rfl rfl ?_
      repeat' ((try (conv => whnf)); (first | refine Pick.mk pm23_11 (by decide +kernel) ?_ | refine CallVC.val (fun w2 h2 => enone_v ep c b0 m cm i first count wait w2 (hP.here h2 (fun _ _ => by simp))) ?_ | refine CallVC.ite (fun w2 h2 => eother_v ep c b0 m cm i first count wait w2 to (hP.here h2 (fun _ _ => by simp))) (fun _ => ?_) (fun hx => absurd ho hx) | refine CallVC.ite (fun w2 h2 => etime_v now w2) (fun hx => absurd hx hn) (fun _ => ?_) | refine Pick.mk pl23_9 (by decide +kernel) ?_ | refine Pick.mk pl23_10 (by decide +kernel) ?_ | refine Pick.mk pl23_11 (by decide +kernel) ?_ | refine Need.au ?_ | (refine Split.mk (fun hsplit => ?_) (fun hsplit => ?_) <;> (try simp only [List.cons.injEq, and_true, true_and, not_true_eq_false, not_false_eq_true] at hsplit) <;> try (exfalso; omega)) | refine Pick.au ?_ | refine store_au ?_ | refine Any.mk (fun _ => ?_) | refine Both.mk ?_ ?_)); all_goals (try (conv => whnf))
      all_goals exact Done.mk GivesX.no
  · rw [if_neg (fun h => ho h.1)]
    refine ret_vc tab_ok Tryz.func23 rfl rfl ?_
    repeat' ((try (conv => whnf)); (first | refine Pick.mk pm23_11 (by decide +kernel) ?_ | refine CallVC.val (fun w2 h2 => enone_v ep c b0 m cm i first count wait w2 (hP.here h2 (fun _ _ => by simp))) ?_ | refine CallVC.ite (fun w2 h2 => eother_v ep c b0 m cm i first count wait w2 to (hP.here h2 (fun _ _ => by simp))) (fun hx => absurd hx ho) (fun _ => ?_) | refine Pick.mk pl23_9 (by decide +kernel) ?_ | refine Pick.mk pl23_10 (by decide +kernel) ?_ | refine Pick.mk pl23_11 (by decide +kernel) ?_ | refine Need.au ?_ | (refine Split.mk (fun hsplit => ?_) (fun hsplit => ?_) <;> (try simp only [List.cons.injEq, and_true, true_and, not_true_eq_false, not_false_eq_true] at hsplit) <;> try (exfalso; omega)) | refine Pick.au ?_ | refine store_au ?_ | refine Any.mk (fun _ => ?_) | refine Both.mk ?_ ?_)); all_goals (try (conv => whnf))
    all_goals exact Done.mk GivesX.no
theorem eopen_r (A : Option Addr) (l : List B8) (cl : Nat) (hl : l.length ≤ 140737488351232) (hcl : l.length ≤ cl) (hcm : m.length ≤ cm) (hA : At w A (l.map b8)) (hP : At w (some ⟨ep, 0, none⟩) (eCs c ⟨some b0, m, cm⟩ i first count wait)) (hM : At w (some b0) (m.map b8)) :
    Ret Tryz.prog 24 [.pointer (some ⟨ep, 0, none⟩), .slice A l.length cl] w (GivesF (openE m i l)) := by
  unfold openE
  obtain ⟨s, e, hr⟩ : ∃ s e, getX l = (s, e) := ⟨_, _, rfl⟩
  rw [hr]
  dsimp only
  by_cases he : e = 0
  · subst he
    rw [if_pos rfl]
    by_cases hk : s.kind = 1 ∨ s.to ≠ i
    · rw [if_pos hk]
      refine ret_vc tab_ok Tryz.func24 rfl rfl ?_
      repeat' ((try (conv => whnf)); (first | refine Pick.mk pm24_8 (by decide +kernel) ?_ | refine Need.mk (List.sublist_append_left _ _) ?_ | refine CallVC.val (fun w2 h2 => enone_v ep c b0 m cm i first count wait w2 (hP.here h2 (fun _ _ => by simp))) ?_ | (refine CallVC.givesF (fun w2 h2 => hr ▸ fget_r A l cl hl hcl w2 (hA.here h2 (fun _ _ => by simp))) (fun f E hf hO => have hk2 : f.kind = 1 ∨ f.to ≠ i := (by rw [← hf] at hk; exact hk); ?_)) | (refine store_frame f (by repeat (first | exact Upd.head _ | apply Upd.tail)) rfl ?_) | refine Pick.mk _ (cell_known hP (by simp) rfl) ?_ | refine Pick.mk pl24_6 (by decide +kernel) ?_ | refine Pick.mk pl24_8 (by decide +kernel) ?_ | refine Need.au ?_ | (refine Split.mk (fun hsplit => ?_) (fun hsplit => ?_) <;> (try simp only [List.cons.injEq, and_true, true_and, not_true_eq_false, not_false_eq_true] at hsplit) <;> try (exfalso; omega)) | refine Pick.au ?_ | refine store_au ?_ | refine Any.mk (fun _ => ?_) | refine Both.mk ?_ ?_)); all_goals (try (conv => whnf))
      all_goals exact Done.mk (GivesF.no rfl)
    · rw [if_neg hk]
      cases hh : holdsX s (pairOf m i s.frm).1
      · rw [if_neg (by decide)]
        refine ret_vc tab_ok Tryz.func24 rfl rfl ?_
        repeat' ((try (conv => whnf)); (first | refine Pick.mk pm24_8 (by decide +kernel) ?_ | refine Need.mk (List.sublist_append_left _ _) ?_ | refine CallVC.val (fun w2 h2 => enone_v ep c b0 m cm i first count wait w2 (hP.here h2 (fun _ _ => by simp))) ?_ | (refine CallVC.givesF (fun w2 h2 => hr ▸ fget_r A l cl hl hcl w2 (hA.here h2 (fun _ _ => by simp))) (fun f E hf hO => have hk2 : ¬ (f.kind = 1 ∨ f.to ≠ i) := (by rw [← hf] at hk; exact hk); ?_)) | (refine store_frame f (by repeat (first | exact Upd.head _ | apply Upd.tail)) rfl ?_) | refine Pick.mk _ (cell_known hP (by simp) rfl) ?_ | (refine CallVC.givesYt (fun w2 h2 => epair_r ep c b0 m cm i first count wait w2 f.frm hcm (hP.here h2 (fun _ _ => by simp)) (hM.here h2 (fun _ _ => by simp))) (fun Ak ck Ek hlk hOk => ?_)) | (refine QuietVC.val (v := .bool false) (fun w2 h2 => by have := holds_v f Ak (pairOf m i f.frm).1 ck hlk w2 (ownK_at (own_k hOk) (by repeat (first | exact List.Sublist.refl _ | exact List.nil_sublist _ | exact List.sublist_append_right _ _ | refine List.Sublist.trans ?_ (List.sublist_append_left _ _) | refine List.Sublist.cons _ ?_)) h2) (fown_at hO (by repeat (first | exact List.Sublist.refl _ | exact List.nil_sublist _ | exact List.sublist_append_right _ _ | refine List.Sublist.trans ?_ (List.sublist_append_left _ _) | refine List.Sublist.cons _ ?_)) h2); rw [← hf] at hh; rwa [show holdsX f.s (pairOf m i f.frm).1 = false from hh] at this) ?_) | refine Pick.mk pl24_6 (by decide +kernel) ?_ | refine Pick.mk pl24_8 (by decide +kernel) ?_ | refine Need.au ?_ | (refine Split.mk (fun hsplit => ?_) (fun hsplit => ?_) <;> (try simp only [List.cons.injEq, and_true, true_and, not_true_eq_false, not_false_eq_true] at hsplit) <;> try (exfalso; omega)) | refine Pick.au ?_ | refine store_au ?_ | refine Any.mk (fun _ => ?_) | refine Both.mk ?_ ?_)); all_goals (try (conv => whnf))
        all_goals exact Done.mk (GivesF.no rfl)
      · rw [if_pos rfl]
        refine ret_vc tab_ok Tryz.func24 rfl rfl ?_
        repeat' ((try (conv => whnf)); (first | refine Pick.mk pm24_8 (by decide +kernel) ?_ | refine Need.mk (List.sublist_append_left _ _) ?_ | refine CallVC.val (fun w2 h2 => enone_v ep c b0 m cm i first count wait w2 (hP.here h2 (fun _ _ => by simp))) ?_ | (refine CallVC.givesF (fun w2 h2 => hr ▸ fget_r A l cl hl hcl w2 (hA.here h2 (fun _ _ => by simp))) (fun f E hf hO => have hk2 : ¬ (f.kind = 1 ∨ f.to ≠ i) := (by rw [← hf] at hk; exact hk); ?_)) | (refine store_frame f (by repeat (first | exact Upd.head _ | apply Upd.tail)) rfl ?_) | refine Pick.mk _ (cell_known hP (by simp) rfl) ?_ | (refine CallVC.givesYt (fun w2 h2 => epair_r ep c b0 m cm i first count wait w2 f.frm hcm (hP.here h2 (fun _ _ => by simp)) (hM.here h2 (fun _ _ => by simp))) (fun Ak ck Ek hlk hOk => ?_)) | (refine QuietVC.val (v := .bool true) (fun w2 h2 => by have := holds_v f Ak (pairOf m i f.frm).1 ck hlk w2 (ownK_at (own_k hOk) (by repeat (first | exact List.Sublist.refl _ | exact List.nil_sublist _ | exact List.sublist_append_right _ _ | refine List.Sublist.trans ?_ (List.sublist_append_left _ _) | refine List.Sublist.cons _ ?_)) h2) (fown_at hO (by repeat (first | exact List.Sublist.refl _ | exact List.nil_sublist _ | exact List.sublist_append_right _ _ | refine List.Sublist.trans ?_ (List.sublist_append_left _ _) | refine List.Sublist.cons _ ?_)) h2); rw [← hf] at hh; rwa [show holdsX f.s (pairOf m i f.frm).1 = true from hh] at this) ?_) | refine Pick.mk pl24_6 (by decide +kernel) ?_ | refine Pick.mk pl24_8 (by decide +kernel) ?_ | refine Need.au ?_ | (refine Split.mk (fun hsplit => ?_) (fun hsplit => ?_) <;> (try simp only [List.cons.injEq, and_true, true_and, not_true_eq_false, not_false_eq_true] at hsplit) <;> try (exfalso; omega)) | refine Pick.au ?_ | refine store_au ?_ | refine Any.mk (fun _ => ?_) | refine Both.mk ?_ ?_)); all_goals (try (conv => whnf))
        all_goals exact Done.mk ⟨f, E, rfl, hf, hO, (by repeat (first | exact List.Sublist.refl _ | exact List.nil_sublist _ | exact List.sublist_append_right _ _ | refine List.Sublist.trans ?_ (List.sublist_append_left _ _) | refine List.Sublist.cons _ ?_))⟩
  · rw [if_neg he]
    refine ret_vc tab_ok Tryz.func24 rfl rfl ?_
    repeat' ((try (conv => whnf)); (first | refine Pick.mk pm24_8 (by decide +kernel) ?_ | refine Need.mk (List.sublist_append_left _ _) ?_ | refine CallVC.val (fun w2 h2 => enone_v ep c b0 m cm i first count wait w2 (hP.here h2 (fun _ _ => by simp))) ?_ | (refine CallVC.givesF (fun w2 h2 => hr ▸ fget_r A l cl hl hcl w2 (hA.here h2 (fun _ _ => by simp))) (fun f E hf hO => ?_)) | (refine store_frame f (by repeat (first | exact Upd.head _ | apply Upd.tail)) rfl ?_) | refine Pick.mk pl24_6 (by decide +kernel) ?_ | refine Pick.mk pl24_8 (by decide +kernel) ?_ | refine Need.au ?_ | (refine Split.mk (fun hsplit => ?_) (fun hsplit => ?_) <;> (try simp only [List.cons.injEq, and_true, true_and, not_true_eq_false, not_false_eq_true] at hsplit) <;> try (exfalso; omega)) | refine Pick.au ?_ | refine store_au ?_ | refine Any.mk (fun _ => ?_) | refine Both.mk ?_ ?_)); all_goals (try (conv => whnf))
    all_goals exact Done.mk (GivesF.no rfl)
end
end
section
set_option linter.unusedVariables false
set_option linter.unusedSimpArgs false
set_option maxRecDepth 100000
set_option maxHeartbeats 8000000
open Go
attribute [local irreducible] bitsOf shlOf shrOf pack numBits bytesBits coreBits crcSum tagOf macKey FrS.ok frameBytes sealX getX holdsX
section
variable (ep : Nat) (c : Cfg) (b0 : Addr) (m : List B8) (cm : Nat) (i : Int) (first count : BitVec 64) (wait : List (BitVec 64 × Int)) (w : World)
theorem ereply1_r (x f : Fr) (be bf : Nat) (hcm : m.length ≤ cm) (hx : FAt w x) (hB : At w (some ⟨be, 0, none⟩) [.pointer (some ⟨ep, 0, none⟩)]) (hF : At w (some ⟨bf, 0, none⟩) f.cs) (hP : At w (some ⟨ep, 0, none⟩) (eCs c ⟨some b0, m, cm⟩ i first count wait)) (hM : At w (some b0) (m.map b8)) :
    Ret Tryz.prog 62 [x.v, .pointer (some ⟨be, 0, none⟩), .pointer (some ⟨bf, 0, none⟩)] w (GivesX (sealX x.s (pairOf m i f.frm).1).1 (sealX x.s (pairOf m i f.frm).1).2) := by
  refine ret_vc tab_ok Tryz.func62 rfl rfl ?_
  repeat' ((try (conv => whnf)); (first | refine Pick.mk pm62_1 (by decide +kernel) ?_ | refine Need.mk (List.sublist_append_left _ _) ?_ | (refine store_frame x (by repeat (first | exact Upd.head _ | apply Upd.tail)) rfl ?_) | refine Pick.mk _ (cell_known hB (by simp) rfl) ?_ | refine Pick.mk _ (cell_known hF (by simp) rfl) ?_ | (refine CallVC.givesYt (fun w2 h2 => epair_r ep c b0 m cm i first count wait w2 f.frm hcm (hP.here h2 (fun _ _ => by simp)) (hM.here h2 (fun _ _ => by simp))) (fun Ak ck Ek hlk hOk => ?_)) | (refine CallVC.givesXt (fun w2 h2 => seal_r x Ak (pairOf m i f.frm).1 ck hlk w2 (ownK_at (own_k hOk) (by repeat (first | exact List.Sublist.refl _ | exact List.nil_sublist _ | exact List.sublist_append_right _ _ | refine List.Sublist.trans ?_ (List.sublist_append_left _ _) | refine List.Sublist.cons _ ?_)) h2) ⟨hx.key.here h2 (fun _ _ => by simp), hx.body.here h2 (fun _ _ => by simp), hx.tag.here h2 (fun _ _ => by simp)⟩) (fun A' c' E' hl' hO' => ?_)) | refine Pick.mk pl62_1 (by decide +kernel) ?_ | refine Need.au ?_ | (refine Split.mk (fun hsplit => ?_) (fun hsplit => ?_) <;> (try simp only [List.cons.injEq, and_true, true_and, not_true_eq_false, not_false_eq_true] at hsplit) <;> try (exfalso; omega)) | refine Pick.au ?_ | refine store_au ?_ | refine Any.mk (fun _ => ?_) | refine Both.mk ?_ ?_)); all_goals (try (conv => whnf))
  exact Done.mk ⟨_, _, _, rfl, hl', hO', (by repeat (first | exact List.Sublist.refl _ | exact List.nil_sublist _ | exact List.sublist_append_right _ _ | refine List.Sublist.trans ?_ (List.sublist_append_left _ _) | refine List.Sublist.cons _ ?_))⟩
/-- The pong. -/
abbrev pongR (i : Int) (f : Fr) (now e st ix : Int) (key : Sl) : Fr := ⟨3, i, f.frm, e, st, 0, f.nonce, now, 0, ix, key, slNil, slNil⟩
theorem ereply_yes (f : Fr) (now e st ix : Int) (A : Option Addr) (key : List B8) (ck : Nat) (hm : f.kind = 2 ∧ f.to = i ∧ f.ok) (hcm : m.length ≤ cm) (hA : At w A (key.map b8)) (hP : At w (some ⟨ep, 0, none⟩) (eCs c ⟨some b0, m, cm⟩ i first count wait)) (hM : At w (some b0) (m.map b8)) :
    Ret Tryz.prog 25 [.pointer (some ⟨ep, 0, none⟩), f.v, .int .i64 now, .int .i64 e, .int .i64 st, .int .i64 ix, .slice A key.length ck] w (GivesX (sealX (pongR i f now e st ix ⟨A, key, ck⟩).s (pairOf m i f.frm).1).1 (sealX (pongR i f now e st ix ⟨A, key, ck⟩).s (pairOf m i f.frm).1).2) := by
  obtain ⟨h1, h2, h3⟩ := hm
  refine ret_vc tab_ok Tryz.func25 rfl rfl ?_
  repeat' ((try (conv => whnf)); (first | refine Need.mk (List.sublist_append_left _ _) ?_ | (refine store_frame f (by repeat (first | exact Upd.head _ | apply Upd.tail)) rfl ?_) | refine Pick.mk _ (cell_known hP (by simp) rfl) ?_ | refine CallVC.val (fun w2 h2 => enone_v ep c b0 m cm i first count wait w2 (hP.here h2 (fun _ _ => by simp))) ?_ | refine QuietVC.val (fun w2 h2 => fcheck_yes f h3 w2) ?_ | refine CallVC.val (fun w2 h2 => fcheck_yes f h3 w2) ?_ | (refine CallVC.givesXt (fun w2 h2 => ereply1_r ep c b0 m cm i first count wait w2 (pongR i f now e st ix ⟨A, key, ck⟩) f _ _ hcm ⟨hA.here h2 (fun _ _ => by simp), At.nil, At.nil⟩ (at_in (by repeat (first | exact List.Mem.head _ | refine List.Mem.tail _ ?_)) h2) (at_in (by repeat (first | exact List.Mem.head _ | refine List.Mem.tail _ ?_)) h2) (hP.here h2 (fun _ _ => by simp)) (hM.here h2 (fun _ _ => by simp))) (fun A' c' E' hl' hO' => ?_)) | refine Pick.mk pl25_3 (by decide +kernel) ?_ | refine Pick.mk pl25_6 (by decide +kernel) ?_ | refine Need.au ?_ | (refine Split.mk (fun hsplit => ?_) (fun hsplit => ?_) <;> (try simp only [List.cons.injEq, and_true, true_and, not_true_eq_false, not_false_eq_true] at hsplit) <;> try (exfalso; omega)) | refine Pick.au ?_ | refine store_au ?_ | refine Any.mk (fun _ => ?_) | refine Both.mk ?_ ?_)); all_goals (try (conv => whnf))
  exact Done.mk ⟨_, _, _, rfl, hl', hO', (by repeat (first | exact List.Sublist.refl _ | exact List.nil_sublist _ | exact List.sublist_append_right _ _ | refine List.Sublist.trans ?_ (List.sublist_append_left _ _) | refine List.Sublist.cons _ ?_))⟩
theorem ereply_no (f : Fr) (now e st ix : Int) (A : Option Addr) (n ck : Nat) (hm : ¬ (f.kind = 2 ∧ f.to = i ∧ f.ok)) (hP : At w (some ⟨ep, 0, none⟩) (eCs c ⟨some b0, m, cm⟩ i first count wait)) :
    Ret Tryz.prog 25 [.pointer (some ⟨ep, 0, none⟩), f.v, .int .i64 now, .int .i64 e, .int .i64 st, .int .i64 ix, .slice A n ck] w (GivesX [] 1) := by
  by_cases h1 : f.kind = 2
  · by_cases h2 : f.to = i
    · have h3 : ¬ f.ok := fun h => hm ⟨h1, h2, h⟩
      refine ret_vc tab_ok Tryz.func25 rfl rfl ?_
      repeat' ((try (conv => whnf)); (first | refine Need.mk (List.sublist_append_left _ _) ?_ | (refine store_frame f (by repeat (first | exact Upd.head _ | apply Upd.tail)) rfl ?_) | refine Pick.mk _ (cell_known hP (by simp) rfl) ?_ | refine CallVC.val (fun w2 h2 => enone_v ep c b0 m cm i first count wait w2 (hP.here h2 (fun _ _ => by simp))) ?_ | refine QuietVC.val (fun w2 h2 => fcheck_no f h3 w2) ?_ | refine CallVC.val (fun w2 h2 => fcheck_no f h3 w2) ?_ | refine Pick.mk pl25_3 (by decide +kernel) ?_ | refine Pick.mk pl25_6 (by decide +kernel) ?_ | refine Need.au ?_ | (refine Split.mk (fun hsplit => ?_) (fun hsplit => ?_) <;> (try simp only [List.cons.injEq, and_true, true_and, not_true_eq_false, not_false_eq_true] at hsplit) <;> try (exfalso; omega)) | refine Pick.au ?_ | refine store_au ?_ | refine Any.mk (fun _ => ?_) | refine Both.mk ?_ ?_)); all_goals (try (conv => whnf))
      all_goals exact Done.mk GivesX.no
    · refine ret_vc tab_ok Tryz.func25 rfl rfl ?_
      repeat' ((try (conv => whnf)); (first | refine Need.mk (List.sublist_append_left _ _) ?_ | (refine store_frame f (by repeat (first | exact Upd.head _ | apply Upd.tail)) rfl ?_) | refine Pick.mk _ (cell_known hP (by simp) rfl) ?_ | refine CallVC.val (fun w2 h2 => enone_v ep c b0 m cm i first count wait w2 (hP.here h2 (fun _ _ => by simp))) ?_ | refine Pick.mk pl25_3 (by decide +kernel) ?_ | refine Pick.mk pl25_6 (by decide +kernel) ?_ | refine Need.au ?_ | (refine Split.mk (fun hsplit => ?_) (fun hsplit => ?_) <;> (try simp only [List.cons.injEq, and_true, true_and, not_true_eq_false, not_false_eq_true] at hsplit) <;> try (exfalso; omega)) | refine Pick.au ?_ | refine store_au ?_ | refine Any.mk (fun _ => ?_) | refine Both.mk ?_ ?_)); all_goals (try (conv => whnf))
      all_goals exact Done.mk GivesX.no
  · refine ret_vc tab_ok Tryz.func25 rfl rfl ?_
    repeat' ((try (conv => whnf)); (first | refine Need.mk (List.sublist_append_left _ _) ?_ | (refine store_frame f (by repeat (first | exact Upd.head _ | apply Upd.tail)) rfl ?_) | refine Pick.mk _ (cell_known hP (by simp) rfl) ?_ | refine CallVC.val (fun w2 h2 => enone_v ep c b0 m cm i first count wait w2 (hP.here h2 (fun _ _ => by simp))) ?_ | refine Pick.mk pl25_3 (by decide +kernel) ?_ | refine Pick.mk pl25_6 (by decide +kernel) ?_ | refine Need.au ?_ | (refine Split.mk (fun hsplit => ?_) (fun hsplit => ?_) <;> (try simp only [List.cons.injEq, and_true, true_and, not_true_eq_false, not_false_eq_true] at hsplit) <;> try (exfalso; omega)) | refine Pick.au ?_ | refine store_au ?_ | refine Any.mk (fun _ => ?_) | refine Both.mk ?_ ?_)); all_goals (try (conv => whnf))
    all_goals exact Done.mk GivesX.no
end
end
end Go.Proofs.YtnlheljpagpiiaaGreat
