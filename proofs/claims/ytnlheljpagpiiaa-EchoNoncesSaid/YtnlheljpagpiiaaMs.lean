/-
  A node that asks, in the program: a question; none waits; every input. A node that opens, in the program; one that asks not; every input. A node that answers, in the program; every input.
-/
import Derived.Test.YtnlheljpagpiiaaMr
import Derived.Test.YtnlheljpagpiiaaIb
namespace Go.Proofs.Ytnlheljpagpiiaa
section
set_option linter.unusedVariables false
set_option linter.unusedSimpArgs false
set_option maxRecDepth 100000
set_option maxHeartbeats 8000000
open Go
attribute [local irreducible] bitsOf shlOf shrOf
/-- A ping, as a frame. -/
def pingS (i to : Int) (n : BitVec 64) : FrS := ⟨2, i, to, 0, 0, 0, n, 0, 0, 0, [], [], []⟩
abbrev mayAsk (c : Cfg) (i to now : Int) (count : BitVec 64) : Prop := (otherP c i to ∧ 0 ≤ now ∧ now ≤ 1099511627776) ∧ (count.toNat : Int) < 4294967295
theorem eask_m (ep : Nat) (c : Cfg) (b0 : Addr) (m : List B8) (cm : Nat) (i : Int) (first count : BitVec 64) (wait : List (BitVec 64 × Int)) (to now : Int) (hcm : m.length ≤ cm) (hcn : c.n ≤ 8) (hw8 : wait.length = 8) (hm : mayAsk c i to now count) (w : World) (hM : At w (some b0) (m.map b8)) (hd : b0.block ∉ [ep]) (hw : St ⟨Try.prog, w, [ep]⟩ [eE ep c ⟨some b0, m, cm⟩ i first count wait] w) :
    Mut Try.prog 7 [.pointer (some ⟨ep, 0, none⟩), .int .i64 to, .int .i64 now] w [eE ep c ⟨some b0, m, cm⟩ i first count wait] fun v hs2 => ∃ H, List.Sublist H hs2 ∧ ∃ A' c' E', v = .tuple #[.slice A' (sealX (pingS i to (first + (count + 1#64))) (pairOf m i to).1).1.length c', .int .i64 (sealX (pingS i to (first + (count + 1#64))) (pairOf m i to).1).2] ∧ Own A' (sealX (pingS i to (first + (count + 1#64))) (pairOf m i to).1).1 c' E' ∧
      H = eE ep c ⟨some b0, m, cm⟩ i first (count + 1#64) (wait.set to.toNat (first + (count + 1#64), now)) :: E' := by
  obtain ⟨⟨ho, hn⟩, hc⟩ := hm
  have hj : to.toNat < wait.length := by omega
  refine mut_vc tab_ok Try.func7 rfl rfl hw ?_
  repeat' ((try (conv => whnf)); (first | refine Pick.mk pm7_11 (by decide +kernel) ?_ | refine Need.mk (List.sublist_append_left _ _) ?_ | refine CallVC.val (fun w2 h2 => enone_v ep c b0 m cm i first count wait w2 (at_in (List.Mem.head _) h2)) ?_ | refine CallVC.ite (fun w2 h2 => eother_v ep c b0 m cm i first count wait w2 to (at_in (List.Mem.head _) h2)) (fun _ => ?_) (fun hx => absurd ho hx) | refine CallVC.ite (fun w2 h2 => etime_v now w2) (fun _ => ?_) (fun hx => absurd hn hx) | refine Pick.mk _ (add_u64 count 1#64) ?_ | refine Pick.mk _ (add_u64 first (count + 1#64)) ?_ | refine store_wait hj (by repeat (first | exact Upd.head _ | apply Upd.tail)) ?_ | (refine CallVC.givesYt (fun w2 h2 => epair_r ep c b0 m cm i first (count + 1#64) (wait.set to.toNat (first + (count + 1#64), now)) w2 to hcm (at_in (by repeat (first | exact List.Mem.head _ | refine List.Mem.tail _ ?_)) h2) (hM.here h2 (fun a ha => by cases ha; exact hd))) (fun Ak ck Ek hlk hOk => ?_)) | (refine CallVC.givesXt (fun w2 h2 => seal_r ⟨2, i, to, 0, 0, 0, first + (count + 1#64), 0, 0, 0, slNil, slNil, slNil⟩ Ak (pairOf m i to).1 ck hlk w2 (ownK_at (own_k hOk) (by repeat (first | exact List.Sublist.refl _ | exact List.nil_sublist _ | exact List.sublist_append_right _ _ | refine List.Sublist.trans ?_ (List.sublist_append_left _ _) | refine List.Sublist.cons _ ?_)) h2) ⟨At.nil, At.nil, At.nil⟩) (fun A' c' E' hl' hO' => ?_)) | refine Pick.mk pl7_9 (by decide +kernel) ?_ | refine Pick.mk pl7_10 (by decide +kernel) ?_ | refine Pick.mk pl7_11 (by decide +kernel) ?_ | refine Need.au ?_ | (refine Split.mk (fun hsplit => ?_) (fun hsplit => ?_) <;> (try simp only [List.cons.injEq, and_true, true_and, not_true_eq_false, not_false_eq_true] at hsplit) <;> try (exfalso; omega)) | refine Pick.au ?_ | refine store_au ?_ | refine Any.mk (fun _ => ?_) | refine Both.mk ?_ ?_)); all_goals (try (conv => whnf))
  exact Done.mk ⟨_, List.Sublist.cons _ (List.Sublist.cons_cons _ (List.sublist_append_right Ek E')), A', c', E', rfl, hO', rfl⟩
end
section
set_option linter.unusedVariables false
set_option linter.unusedSimpArgs false
set_option maxRecDepth 100000
set_option maxHeartbeats 8000000
open Go
/-- What a node opens. -/
def openE (m : List B8) (i : Int) (l : List B8) : FrS × Int :=
  if (getX l).2 = 0 then (if (getX l).1.kind = 1 ∨ (getX l).1.to ≠ i then (FrS.zero, 1) else (if holdsX (getX l).1 (pairOf m i (getX l).1.frm).1 = true then ((getX l).1, 0) else (FrS.zero, 13))) else (FrS.zero, (getX l).2)
attribute [local irreducible] bitsOf shlOf shrOf pack numBits bytesBits coreBits crcSum tagOf macKey FrS.ok frameBytes sealX getX holdsX
section
variable (ep : Nat) (c : Cfg) (b0 : Addr) (m : List B8) (cm : Nat) (i : Int) (first count : BitVec 64) (wait : List (BitVec 64 × Int)) (w : World)
theorem eask_no (to now : Int) (hm : ¬ mayAsk c i to now count) (hP : At w (some ⟨ep, 0, none⟩) (eCs c ⟨some b0, m, cm⟩ i first count wait)) :
    Ret Try.prog 7 [.pointer (some ⟨ep, 0, none⟩), .int .i64 to, .int .i64 now] w (GivesX [] (if otherP c i to ∧ 0 ≤ now ∧ now ≤ 1099511627776 then 9 else 1)) := by
  by_cases ho : otherP c i to
  · by_cases hn : 0 ≤ now ∧ now ≤ 1099511627776
    · rw [if_pos ⟨ho, hn⟩]
      have hc : ¬ (count.toNat : Int) < 4294967295 := fun h => hm ⟨⟨ho, hn⟩, h⟩
      refine ret_vc tab_ok Try.func7 rfl rfl ?_
      repeat' ((try (conv => whnf)); (first | refine Pick.mk pm7_11 (by decide +kernel) ?_ | refine CallVC.val (fun w2 h2 => enone_v ep c b0 m cm i first count wait w2 (hP.here h2 (fun _ _ => by simp))) ?_ | refine CallVC.ite (fun w2 h2 => eother_v ep c b0 m cm i first count wait w2 to (hP.here h2 (fun _ _ => by simp))) (fun _ => ?_) (fun hx => absurd ho hx) | refine CallVC.ite (fun w2 h2 => etime_v now w2) (fun _ => ?_) (fun hx => absurd hn hx) | refine Pick.mk _ (cell_known hP (by simp) rfl) ?_ | refine Pick.mk pl7_9 (by decide +kernel) ?_ | refine Pick.mk pl7_10 (by decide +kernel) ?_ | refine Pick.mk pl7_11 (by decide +kernel) ?_ | refine Need.au ?_ | (refine Split.mk (fun hsplit => ?_) (fun hsplit => ?_) <;> (try simp only [List.cons.injEq, and_true, true_and, not_true_eq_false, not_false_eq_true] at hsplit) <;> try (exfalso; omega)) | refine Pick.au ?_ | refine store_au ?_ | refine Any.mk (fun _ => ?_) | refine Both.mk ?_ ?_)); all_goals (try (conv => whnf))
      all_goals exact Done.mk GivesX.no
    · rw [if_neg (fun h => hn h.2)]
      refine ret_vc tab_ok Try.func7 rfl rfl ?_
      repeat' ((try (conv => whnf)); (first | refine Pick.mk pm7_11 (by decide +kernel) ?_ | refine CallVC.val (fun w2 h2 => enone_v ep c b0 m cm i first count wait w2 (hP.here h2 (fun _ _ => by simp))) ?_ | refine CallVC.ite (fun w2 h2 => eother_v ep c b0 m cm i first count wait w2 to (hP.here h2 (fun _ _ => by simp))) (fun _ => ?_) (fun hx => absurd ho hx) | refine CallVC.ite (fun w2 h2 => etime_v now w2) (fun hx => absurd hx hn) (fun _ => ?_) | refine Pick.mk pl7_9 (by decide +kernel) ?_ | refine Pick.mk pl7_10 (by decide +kernel) ?_ | refine Pick.mk pl7_11 (by decide +kernel) ?_ | refine Need.au ?_ | (refine Split.mk (fun hsplit => ?_) (fun hsplit => ?_) <;> (try simp only [List.cons.injEq, and_true, true_and, not_true_eq_false, not_false_eq_true] at hsplit) <;> try (exfalso; omega)) | refine Pick.au ?_ | refine store_au ?_ | refine Any.mk (fun _ => ?_) | refine Both.mk ?_ ?_)); all_goals (try (conv => whnf))
      all_goals exact Done.mk GivesX.no
  · rw [if_neg (fun h => ho h.1)]
    refine ret_vc tab_ok Try.func7 rfl rfl ?_
    repeat' ((try (conv => whnf)); (first | refine Pick.mk pm7_11 (by decide +kernel) ?_ | refine CallVC.val (fun w2 h2 => enone_v ep c b0 m cm i first count wait w2 (hP.here h2 (fun _ _ => by simp))) ?_ | refine CallVC.ite (fun w2 h2 => eother_v ep c b0 m cm i first count wait w2 to (hP.here h2 (fun _ _ => by simp))) (fun hx => absurd hx ho) (fun _ => ?_) | refine Pick.mk pl7_9 (by decide +kernel) ?_ | refine Pick.mk pl7_10 (by decide +kernel) ?_ | refine Pick.mk pl7_11 (by decide +kernel) ?_ | refine Need.au ?_ | (refine Split.mk (fun hsplit => ?_) (fun hsplit => ?_) <;> (try simp only [List.cons.injEq, and_true, true_and, not_true_eq_false, not_false_eq_true] at hsplit) <;> try (exfalso; omega)) | refine Pick.au ?_ | refine store_au ?_ | refine Any.mk (fun _ => ?_) | refine Both.mk ?_ ?_)); all_goals (try (conv => whnf))
    all_goals exact Done.mk GivesX.no
end
end
section
set_option linter.unusedVariables false
set_option linter.unusedSimpArgs false
set_option maxRecDepth 100000
set_option maxHeartbeats 8000000
open Go
attribute [local irreducible] bitsOf shlOf shrOf pack numBits bytesBits coreBits crcSum tagOf macKey FrS.ok frameBytes sealX getX holdsX
section
variable (ep : Nat) (c : Cfg) (b0 : Addr) (m : List B8) (cm : Nat) (i : Int) (first count : BitVec 64) (wait : List (BitVec 64 × Int)) (w : World)
/-- The pong. -/
abbrev pongR (i : Int) (f : Fr) (now e st ix : Int) (key : Sl) : Fr := ⟨3, i, f.frm, e, st, 0, f.nonce, now, 0, ix, key, slNil, slNil⟩
end
end
end Go.Proofs.Ytnlheljpagpiiaa
