/-
  The law EchoOnce returns true; every input. The law EchoOnce returns true, as a whole; every input.
-/
import Derived.Test.YtnlheljpagpiiaaGreatMt
namespace Go.Proofs.YtnlheljpagpiiaaGreat
section
set_option linter.unusedVariables false
set_option linter.unusedSimpArgs false
set_option linter.unusedSectionVars false
set_option maxRecDepth 100000
set_option maxHeartbeats 8000000
open Go
/-- The first nonce of the first incarnation, and the second. -/
abbrev n11 : BitVec 64 := firstOf 1 + (0#64 + 1#64)
abbrev n12 : BitVec 64 := firstOf 1 + (0#64 + 1#64 + 1#64)
/-- The question of 0 to 1, and the answer. -/
def ping01 (m : List B8) : FrS := (pingS 0 1 n11).withTag (tagOf (pingS 0 1 n11) (pairOf m 0 1).1)
def pong10 (m : List B8) (now : Int) : FrS := (pongS 1 0 n11 now 1 0 0 m).withTag (tagOf (pongS 1 0 n11 now 1 0 0 m) (pairOf m 1 0).1)
theorem pongR_s (i : Int) (f : Fr) (now e st ix : Int) (key : Sl) : (pongR i f now e st ix key).s = pongS i f.frm f.nonce now e st ix key.l := rfl
section
variable {m : List B8} (h16 : m.length = 16)
include h16
theorem ping01_ok : (ping01 m).ok := withTag_ok (ping_ok (by decide) (by decide) (by decide)) (tagOf_len _ _)
theorem ping01_seal : sealX (pingS 0 1 n11) (pairOf m 0 1).1 = (frameBytes (ping01 m), 0) := seal_own (pair16 h16 (by decide) (by decide) (by decide)) (ping_ok (by decide) (by decide) (by decide))
theorem ping01_open : openE m 1 (frameBytes (ping01 m)) = (ping01 m, 0) := open_own (pair16 h16 (by decide) (by decide) (by decide)) (ping_ok (by decide) (by decide) (by decide)) (by decide) rfl rfl
variable {now : Int} (hn : 0 ≤ now ∧ now ≤ 1099511627776)
include hn
theorem pong10_un : (pongS 1 0 n11 now 1 0 0 m).untagged.ok := pong_ok (by decide) (by decide) (by decide) hn (by decide) (by decide) (by decide) h16
theorem pong10_ok : (pong10 m now).ok := withTag_ok (pong10_un h16 hn) (tagOf_len _ _)
theorem pong10_seal : sealX (pongS 1 0 n11 now 1 0 0 m) (pairOf m 1 0).1 = (frameBytes (pong10 m now), 0) := seal_own (pair16 h16 (by decide) (by decide) (by decide)) (pong10_un h16 hn)
theorem pong10_open : openE m 0 (frameBytes (pong10 m now)) = (pong10 m now, 0) := open_own (pair16 h16 (by decide) (by decide) (by decide)) (pong10_un h16 hn) (show (3 : Int) ≠ 1 by decide) rfl rfl
end
/-- One question waits, since 't'. -/
abbrev wait1 (n : BitVec 64) (t : Int) : List (BitVec 64 × Int) := wait0.set (1 : Int).toNat (n, t)
theorem wait1_in {n : BitVec 64} {t : Int} (ht : 0 ≤ t ∧ t ≤ 1099511627776) : InTime (wait1 n t) := InTime.none.set _ ht
section
variable {m : List B8} (h16 : m.length = 16) {st : Int} (hst : 0 ≤ st ∧ st ≤ 1099511627776)
include h16 hst
theorem hear_early {now t : Int} (hn : 0 ≤ now ∧ now ≤ 1099511627776) (h : now < t) : hearX usualC 0 (wait1 n11 t) (pong10 m st) now = (Ans.zero, [], 6, wait1 n11 t) := by
  have hp : hearP usualC 0 now (pong10 m st) := ⟨rfl, rfl, pong10_ok h16 hst, (show (1 : Int) < 3 by decide), hn.1, hn.2⟩
  unfold hearX
  rw [if_pos hp, if_pos (show missP ((wait1 n11 t).getD (pong10 m st).frm.toNat (0, 0)) (pong10 m st) now from (show missP (n11, t) (pong10 m st) now from .inr (.inr h)))]
theorem hear_other {now t : Int} (hn : 0 ≤ now ∧ now ≤ 1099511627776) {n : BitVec 64} (h : n ≠ n11) (w : List (BitVec 64 × Int)) (hw : w.getD 1 (0, 0) = (n, t)) : hearX usualC 0 w (pong10 m st) now = (Ans.zero, [], 6, w) := by
  have hp : hearP usualC 0 now (pong10 m st) := ⟨rfl, rfl, pong10_ok h16 hst, (show (1 : Int) < 3 by decide), hn.1, hn.2⟩
  have hm : missP (w.getD (pong10 m st).frm.toNat (0, 0)) (pong10 m st) now := by
    show missP (w.getD 1 (0, 0)) (pong10 m st) now
    rw [hw]
    exact .inr (.inl h)
  unfold hearX
  rw [if_pos hp, if_pos hm]
theorem hear_late1 {now t : Int} (ht : 0 ≤ t) (hn : now ≤ 1099511627776) (h : t ≤ now) (hl : 400 < now - t) : hearX usualC 0 (wait1 n11 t) (pong10 m st) now = (Ans.zero, [], 12, wait0) := by
  have hp : hearP usualC 0 now (pong10 m st) := ⟨rfl, rfl, pong10_ok h16 hst, (show (1 : Int) < 3 by decide), by omega, hn⟩
  have hm : ¬ missP (n11, t) (pong10 m st) now := by
    rintro (h1 | h1 | h1)
    · exact absurd (congrArg Prod.fst h1) (show ¬ n11 = (0 : BitVec 64) by decide)
    · exact h1 rfl
    · omega
  unfold hearX
  rw [if_pos hp, if_neg (show ¬ missP ((wait1 n11 t).getD (pong10 m st).frm.toNat (0, 0)) (pong10 m st) now from hm), if_pos (show usualC.win < now - ((wait1 n11 t).getD (pong10 m st).frm.toNat (0, 0)).2 from hl)]
  rfl
theorem hear_yes1 {now t : Int} (ht : 0 ≤ t) (hn : now ≤ 1099511627776) (h : t ≤ now) (hl : ¬ 400 < now - t) : hearX usualC 0 (wait1 n11 t) (pong10 m st) now = (⟨1, st - now, st + (mostX (now - t) 3).1 - now, 1, 0, 0⟩, m, 0, wait0) := by
  have hp : hearP usualC 0 now (pong10 m st) := ⟨rfl, rfl, pong10_ok h16 hst, (show (1 : Int) < 3 by decide), by omega, hn⟩
  have hm : ¬ missP (n11, t) (pong10 m st) now := by
    rintro (h1 | h1 | h1)
    · exact absurd (congrArg Prod.fst h1) (show ¬ n11 = (0 : BitVec 64) by decide)
    · exact h1 rfl
    · omega
  unfold hearX
  rw [if_pos hp, if_neg (show ¬ missP ((wait1 n11 t).getD (pong10 m st).frm.toNat (0, 0)) (pong10 m st) now from hm), if_neg (show ¬ usualC.win < now - ((wait1 n11 t).getD (pong10 m st).frm.toNat (0, 0)).2 from hl)]
  rfl
end
end
section
set_option linter.unusedVariables false
set_option linter.unusedSimpArgs false
set_option maxRecDepth 100000
set_option maxHeartbeats 8000000
open Go
attribute [local irreducible] bitsOf shlOf shrOf pack numBits bytesBits coreBits crcSum tagOf macKey FrS.ok frameBytes sealX getX holdsX mostX ping01 pong10 openE hearX
theorem once_no (A : Option Addr) (m : List B8) (ck : Nat) (wt : Int) (hwt : 0 ≤ wt ∧ wt ≤ 65535) (ag : Bool) (w : World) (hck : m.length ≤ ck) (hA : At w A (m.map b8)) (h : ¬ m.length = 16) : Val Tryz.prog 8 [.slice A m.length ck, .int .u16 wt, .bool ag] w (.bool true) := by
  refine val_vc tab_ok Tryz.func8 rfl rfl ?_
  repeat' ((try (conv => whnf)); (first | refine CallVC.val (fun w2 h2 => usual_v w2) ?_ | refine CallVC.val (fun w2 h2 => enew_no usualC usual_in A m ck _ 1 (fun hx => h hx.2.2.2) w2 (hA.here h2 (fun _ _ => by simp))) ?_ | (refine QuietVC.val (fun w2 h2 => awake23_v w2) ?_) | (refine CallVC.val (fun w2 h2 => awake23_v w2) ?_) | refine Need.au ?_ | (refine Split.mk (fun hsplit => ?_) (fun hsplit => ?_) <;> (try simp only [List.cons.injEq, and_true, true_and, not_true_eq_false, not_false_eq_true] at hsplit) <;> try (exfalso; omega)) | refine Pick.au ?_ | refine store_au ?_ | refine Any.mk (fun _ => ?_) | refine Both.mk ?_ ?_)); all_goals (try (conv => whnf))
  all_goals exact Done.mk rfl
/-- A frame that is opened: what it is. -/
theorem ping_of {m : List B8} {f : Fr} (h16 : m.length = 16) (h : f.s = ping01 m) : (f.kind = 2 ∧ f.to = 1 ∧ f.ok) ∧ f.frm = 0 ∧ f.nonce = n11 := by
  refine ⟨⟨?_, ?_, (ok_s f).1 (h ▸ ping01_ok h16)⟩, ?_, ?_⟩
  · have := congrArg FrS.kind h; unfold ping01 at this; exact this
  · have := congrArg FrS.to h; unfold ping01 at this; exact this
  · have := congrArg FrS.frm h; unfold ping01 at this; exact this
  · have := congrArg FrS.nonce h; unfold ping01 at this; exact this
theorem once_again (A : Option Addr) (m : List B8) (ck : Nat) (wt : Int) (hwt : 0 ≤ wt ∧ wt ≤ 65535) (ag : Bool) (w : World) (hck : m.length ≤ ck) (hA : At w A (m.map b8)) (h16 : m.length = 16) (hag : ag = true) : Val Tryz.prog 8 [.slice A m.length ck, .int .u16 wt, .bool ag] w (.bool true) := by
  subst hag
  have hp := frameBytes_le2 (ping01_ok h16)
  have hq := frameBytes_le2 (pong10_ok h16 (now := 70) (by decide))
  refine val_vc tab_ok Tryz.func8 rfl rfl ?_
  repeat' ((try (conv => whnf)); (first | refine CallVC.val (fun w2 h2 => usual_v w2) ?_ | (refine CallVC.newE (fun w2 h2 => enew_yes usualC usual_in A m ck 0 1 ⟨usual_ok, by decide, by decide, h16⟩ w2 (hA.here h2 (fun _ _ => by simp))) (fun epa mba ra fra cma hcma => ?_)) | (refine CallVC.newE (fun w2 h2 => enew_yes usualC usual_in A m ck 1 1 ⟨usual_ok, by decide, by decide, h16⟩ w2 (hA.here h2 (fun _ _ => by simp))) (fun epb mbb rb frb cmb hcmb => ?_)) | (refine CallVC.askW rfl (by repeat (first | exact Take.head _ | apply Take.tail)) (by repeat (first | exact List.Mem.head _ | refine List.Mem.tail _ ?_)) hcma (by decide) rfl (by decide) (ping01_seal h16) (fun A1 c1 E1 hO1 => ?_); have hl1 := own_cap hO1; dsimp only at hl1 hO1 ⊢) | (refine CallVC.givesF (s := ping01 m) (e := 0) (fun w2 h2 => ping01_open h16 ▸ eopen_r epb usualC ⟨mbb, 0, none⟩ m cmb 1 _ _ _ w2 A1 (frameBytes (ping01 m)) c1 (by omega) hl1 hcmb (ownK_at (own_k hO1) (by repeat (first | exact List.Sublist.refl _ | exact List.nil_sublist _ | exact List.sublist_append_right _ _ | refine List.Sublist.trans ?_ (List.sublist_append_left _ _) | refine List.Sublist.cons _ ?_)) h2) (at_in (by repeat (first | exact List.Mem.head _ | refine List.Mem.tail _ ?_)) h2) (at_pre (by repeat (first | exact List.Mem.head _ | refine List.Mem.tail _ ?_)) h2)) (fun p Ep hps hOp => ?_)) | (refine CallVC.givesXt (xs := frameBytes (pong10 m 70)) (e := 0) (fun w2 h2 => by have := ereply_yes epb usualC ⟨mbb, 0, none⟩ m cmb 1 _ _ _ w2 p 70 1 0 0 A m ck (ping_of h16 hps).1 hcmb (hA.here h2 (fun _ _ => by simp)) (at_in (by repeat (first | exact List.Mem.head _ | refine List.Mem.tail _ ?_)) h2) (at_pre (by repeat (first | exact List.Mem.head _ | refine List.Mem.tail _ ?_)) h2); rwa [pongR_s, (ping_of h16 hps).2.1, (ping_of h16 hps).2.2, pong10_seal h16 (by decide)] at this) (fun A2 c2 E2 hl2 hO2 => ?_)) | (refine CallVC.givesF (s := pong10 m 70) (e := 0) (fun w2 h2 => pong10_open h16 (now := 70) (by decide) ▸ eopen_r epa usualC ⟨mba, 0, none⟩ m cma 0 _ _ _ w2 A2 (frameBytes (pong10 m 70)) c2 (by omega) hl2 hcma (ownK_at (own_k hO2) (by repeat (first | exact List.Sublist.refl _ | exact List.nil_sublist _ | exact List.sublist_append_right _ _ | refine List.Sublist.trans ?_ (List.sublist_append_left _ _) | refine List.Sublist.cons _ ?_)) h2) (at_in (by repeat (first | exact List.Mem.head _ | refine List.Mem.tail _ ?_)) h2) (at_pre (by repeat (first | exact List.Mem.head _ | refine List.Mem.tail _ ?_)) h2)) (fun q Eq hqs hOq => ?_)) | (refine store_frame p (by repeat (first | exact Upd.head _ | apply Upd.tail)) rfl ?_) | (refine store_frame q (by repeat (first | exact Upd.head _ | apply Upd.tail)) rfl ?_) | (refine CallVC.askW rfl (by repeat (first | exact Take.head _ | apply Take.tail)) (by repeat (first | exact List.Mem.head _ | refine List.Mem.tail _ ?_)) hcma (by decide) rfl (by decide) rfl (fun A3 c3 E3 hO3 => ?_)) | (refine CallVC.hearW rfl (by repeat (first | exact Take.head _ | apply Take.tail)) hOq (by repeat (first | exact List.Sublist.refl _ | exact List.nil_sublist _ | exact List.sublist_append_right _ _ | refine List.Sublist.trans ?_ (List.sublist_append_left _ _) | refine List.Sublist.cons _ ?_)) usual_ok rfl ((wait1_in (by decide)).set _ (by decide)) ((congrArg (fun s => hearX usualC 0 _ s _) hqs).trans (hear_other h16 (by decide) (n := n12) (t := 5000) (by decide) (by decide) _ rfl)) (fun A4 c4 E4 hl4 hO4 => ?_)) | (refine CallVC.val (v := .bool true) (fun w2 h2 => by have := easked_v epa usualC ⟨mba, 0, none⟩ m cma 0 (firstOf 1) (0#64 + 1#64 + 1#64) ((wait1 n11 5000).set (1 : Int).toNat (n12, 5000)) w2 1 (by decide) rfl (at_in (by repeat (first | exact List.Mem.head _ | refine List.Mem.tail _ ?_)) h2); rwa [if_pos ⟨by decide, by decide⟩] at this) ?_) | (refine QuietVC.val (fun w2 h2 => awake23_v w2) ?_) | (refine CallVC.val (fun w2 h2 => awake23_v w2) ?_) | refine Need.au ?_ | (refine Split.mk (fun hsplit => ?_) (fun hsplit => ?_) <;> (try simp only [List.cons.injEq, and_true, true_and, not_true_eq_false, not_false_eq_true] at hsplit) <;> try (exfalso; omega)) | refine Pick.au ?_ | refine store_au ?_ | refine Any.mk (fun _ => ?_) | refine Both.mk ?_ ?_)); all_goals (try (conv => whnf))
  exact Done.mk rfl
theorem hear_nil {m : List B8} (h16 : m.length = 16) {st : Int} (hst : 0 ≤ st ∧ st ≤ 1099511627776) {now : Int} (hn : 0 ≤ now ∧ now ≤ 1099511627776) : hearX usualC 0 wait0 (pong10 m st) now = (Ans.zero, [], 6, wait0) := by
  have hp : hearP usualC 0 now (pong10 m st) := by unfold pong10; exact ⟨rfl, rfl, by have := pong10_ok h16 hst; unfold pong10 at this; exact this, (show (1 : Int) < 3 by decide), hn.1, hn.2⟩
  have hm : missP (wait0.getD (pong10 m st).frm.toNat (0, 0)) (pong10 m st) now := by unfold pong10; exact .inl rfl
  unfold hearX
  rw [if_pos hp, if_pos hm]
theorem once_first (A : Option Addr) (m : List B8) (ck : Nat) (wt : Int) (hwt : 0 ≤ wt ∧ wt ≤ 65535) (ag : Bool) (w : World) (hck : m.length ≤ ck) (hA : At w A (m.map b8)) (h16 : m.length = 16) (hag : ag = false) : Val Tryz.prog 8 [.slice A m.length ck, .int .u16 wt, .bool ag] w (.bool true) := by
  subst hag
  have hp := frameBytes_le2 (ping01_ok h16)
  have hq := frameBytes_le2 (pong10_ok h16 (now := 70) (by decide))
  have hmo : (mostX wt 3).2 = 0 := by unfold mostX; rw [if_pos ⟨by decide, by omega, by omega⟩]
  refine val_vc tab_ok Tryz.func8 rfl rfl ?_
  by_cases hl : 400 < wt
  · repeat' ((try (conv => whnf)); (first | refine CallVC.val (fun w2 h2 => usual_v w2) ?_ | (refine CallVC.newE (fun w2 h2 => enew_yes usualC usual_in A m ck 0 1 ⟨usual_ok, by decide, by decide, h16⟩ w2 (hA.here h2 (fun _ _ => by simp))) (fun epa mba ra fra cma hcma => ?_)) | (refine CallVC.newE (fun w2 h2 => enew_yes usualC usual_in A m ck 1 1 ⟨usual_ok, by decide, by decide, h16⟩ w2 (hA.here h2 (fun _ _ => by simp))) (fun epb mbb rb frb cmb hcmb => ?_)) | (refine CallVC.askW rfl (by repeat (first | exact Take.head _ | apply Take.tail)) (by repeat (first | exact List.Mem.head _ | refine List.Mem.tail _ ?_)) hcma (by decide) rfl (by decide) (ping01_seal h16) (fun A1 c1 E1 hO1 => ?_); have hl1 := own_cap hO1; dsimp only at hl1 hO1 ⊢) | (refine CallVC.givesF (s := ping01 m) (e := 0) (fun w2 h2 => ping01_open h16 ▸ eopen_r epb usualC ⟨mbb, 0, none⟩ m cmb 1 _ _ _ w2 A1 (frameBytes (ping01 m)) c1 (by omega) hl1 hcmb (ownK_at (own_k hO1) (by repeat (first | exact List.Sublist.refl _ | exact List.nil_sublist _ | exact List.sublist_append_right _ _ | refine List.Sublist.trans ?_ (List.sublist_append_left _ _) | refine List.Sublist.cons _ ?_)) h2) (at_in (by repeat (first | exact List.Mem.head _ | refine List.Mem.tail _ ?_)) h2) (at_pre (by repeat (first | exact List.Mem.head _ | refine List.Mem.tail _ ?_)) h2)) (fun p Ep hps hOp => ?_)) | (refine CallVC.givesXt (xs := frameBytes (pong10 m 70)) (e := 0) (fun w2 h2 => by have := ereply_yes epb usualC ⟨mbb, 0, none⟩ m cmb 1 _ _ _ w2 p 70 1 0 0 A m ck (ping_of h16 hps).1 hcmb (hA.here h2 (fun _ _ => by simp)) (at_in (by repeat (first | exact List.Mem.head _ | refine List.Mem.tail _ ?_)) h2) (at_pre (by repeat (first | exact List.Mem.head _ | refine List.Mem.tail _ ?_)) h2); rwa [pongR_s, (ping_of h16 hps).2.1, (ping_of h16 hps).2.2, pong10_seal h16 (by decide)] at this) (fun A2 c2 E2 hl2 hO2 => ?_)) | (refine CallVC.givesF (s := pong10 m 70) (e := 0) (fun w2 h2 => pong10_open h16 (now := 70) (by decide) ▸ eopen_r epa usualC ⟨mba, 0, none⟩ m cma 0 _ _ _ w2 A2 (frameBytes (pong10 m 70)) c2 (by omega) hl2 hcma (ownK_at (own_k hO2) (by repeat (first | exact List.Sublist.refl _ | exact List.nil_sublist _ | exact List.sublist_append_right _ _ | refine List.Sublist.trans ?_ (List.sublist_append_left _ _) | refine List.Sublist.cons _ ?_)) h2) (at_in (by repeat (first | exact List.Mem.head _ | refine List.Mem.tail _ ?_)) h2) (at_pre (by repeat (first | exact List.Mem.head _ | refine List.Mem.tail _ ?_)) h2)) (fun q Eq hqs hOq => ?_)) | (refine store_frame p (by repeat (first | exact Upd.head _ | apply Upd.tail)) rfl ?_) | (refine store_frame q (by repeat (first | exact Upd.head _ | apply Upd.tail)) rfl ?_) | (refine CallVC.hearW rfl (by repeat (first | exact Take.head _ | apply Take.tail)) hOq (by repeat (first | exact List.Sublist.refl _ | exact List.nil_sublist _ | exact List.sublist_append_right _ _ | refine List.Sublist.trans ?_ (List.sublist_append_left _ _) | refine List.Sublist.cons _ ?_)) usual_ok rfl (wait1_in (by decide)) ((congrArg (fun s => hearX usualC 0 _ s _) hqs).trans (hear_early h16 (by decide) (now := 4999) (t := 5000) (by decide) (by decide))) (fun A4 c4 E4 hl4 hO4 => ?_)) | (refine CallVC.hearW rfl (by repeat (first | exact Take.head _ | apply Take.tail)) hOq (by repeat (first | exact List.Sublist.refl _ | exact List.nil_sublist _ | exact List.sublist_append_right _ _ | refine List.Sublist.trans ?_ (List.sublist_append_left _ _) | refine List.Sublist.cons _ ?_)) usual_ok rfl (wait1_in (by decide)) ((congrArg (fun s => hearX usualC 0 _ s _) hqs).trans (hear_late1 h16 (by decide) (now := 5000 + wt) (t := 5000) (by decide) (by omega) (by omega) (by omega))) (fun A5 c5 E5 hl5 hO5 => ?_)) | (refine CallVC.hearW rfl (by repeat (first | exact Take.head _ | apply Take.tail)) hOq (by repeat (first | exact List.Sublist.refl _ | exact List.nil_sublist _ | exact List.sublist_append_right _ _ | refine List.Sublist.trans ?_ (List.sublist_append_left _ _) | refine List.Sublist.cons _ ?_)) usual_ok rfl InTime.none ((congrArg (fun s => hearX usualC 0 _ s _) hqs).trans (hear_nil h16 (by decide) ⟨by omega, by omega⟩)) (fun A6 c6 E6 hl6 hO6 => ?_)) | refine CallVC.val (fun w2 h2 => rmost_v wt 3 w2) ?_ | (refine CallVC.val (v := .bool false) (fun w2 h2 => by have := easked_v epa usualC ⟨mba, 0, none⟩ m cma 0 (firstOf 1) (0#64 + 1#64) wait0 w2 1 (by decide) rfl (at_in (by repeat (first | exact List.Mem.head _ | refine List.Mem.tail _ ?_)) h2); rwa [if_neg (by decide)] at this) ?_) | (refine QuietVC.val (fun w2 h2 => awake23_v w2) ?_) | (refine CallVC.val (fun w2 h2 => awake23_v w2) ?_) | refine Need.au ?_ | (refine Split.mk (fun hsplit => ?_) (fun hsplit => ?_) <;> (try simp only [List.cons.injEq, and_true, true_and, not_true_eq_false, not_false_eq_true] at hsplit) <;> try (exfalso; omega)) | refine Pick.au ?_ | refine store_au ?_ | refine Any.mk (fun _ => ?_) | refine Both.mk ?_ ?_)); all_goals (try (conv => whnf))
    exact Done.mk rfl
  · repeat' ((try (conv => whnf)); (first | refine CallVC.val (fun w2 h2 => usual_v w2) ?_ | (refine CallVC.newE (fun w2 h2 => enew_yes usualC usual_in A m ck 0 1 ⟨usual_ok, by decide, by decide, h16⟩ w2 (hA.here h2 (fun _ _ => by simp))) (fun epa mba ra fra cma hcma => ?_)) | (refine CallVC.newE (fun w2 h2 => enew_yes usualC usual_in A m ck 1 1 ⟨usual_ok, by decide, by decide, h16⟩ w2 (hA.here h2 (fun _ _ => by simp))) (fun epb mbb rb frb cmb hcmb => ?_)) | (refine CallVC.askW rfl (by repeat (first | exact Take.head _ | apply Take.tail)) (by repeat (first | exact List.Mem.head _ | refine List.Mem.tail _ ?_)) hcma (by decide) rfl (by decide) (ping01_seal h16) (fun A1 c1 E1 hO1 => ?_); have hl1 := own_cap hO1; dsimp only at hl1 hO1 ⊢) | (refine CallVC.givesF (s := ping01 m) (e := 0) (fun w2 h2 => ping01_open h16 ▸ eopen_r epb usualC ⟨mbb, 0, none⟩ m cmb 1 _ _ _ w2 A1 (frameBytes (ping01 m)) c1 (by omega) hl1 hcmb (ownK_at (own_k hO1) (by repeat (first | exact List.Sublist.refl _ | exact List.nil_sublist _ | exact List.sublist_append_right _ _ | refine List.Sublist.trans ?_ (List.sublist_append_left _ _) | refine List.Sublist.cons _ ?_)) h2) (at_in (by repeat (first | exact List.Mem.head _ | refine List.Mem.tail _ ?_)) h2) (at_pre (by repeat (first | exact List.Mem.head _ | refine List.Mem.tail _ ?_)) h2)) (fun p Ep hps hOp => ?_)) | (refine CallVC.givesXt (xs := frameBytes (pong10 m 70)) (e := 0) (fun w2 h2 => by have := ereply_yes epb usualC ⟨mbb, 0, none⟩ m cmb 1 _ _ _ w2 p 70 1 0 0 A m ck (ping_of h16 hps).1 hcmb (hA.here h2 (fun _ _ => by simp)) (at_in (by repeat (first | exact List.Mem.head _ | refine List.Mem.tail _ ?_)) h2) (at_pre (by repeat (first | exact List.Mem.head _ | refine List.Mem.tail _ ?_)) h2); rwa [pongR_s, (ping_of h16 hps).2.1, (ping_of h16 hps).2.2, pong10_seal h16 (by decide)] at this) (fun A2 c2 E2 hl2 hO2 => ?_)) | (refine CallVC.givesF (s := pong10 m 70) (e := 0) (fun w2 h2 => pong10_open h16 (now := 70) (by decide) ▸ eopen_r epa usualC ⟨mba, 0, none⟩ m cma 0 _ _ _ w2 A2 (frameBytes (pong10 m 70)) c2 (by omega) hl2 hcma (ownK_at (own_k hO2) (by repeat (first | exact List.Sublist.refl _ | exact List.nil_sublist _ | exact List.sublist_append_right _ _ | refine List.Sublist.trans ?_ (List.sublist_append_left _ _) | refine List.Sublist.cons _ ?_)) h2) (at_in (by repeat (first | exact List.Mem.head _ | refine List.Mem.tail _ ?_)) h2) (at_pre (by repeat (first | exact List.Mem.head _ | refine List.Mem.tail _ ?_)) h2)) (fun q Eq hqs hOq => ?_)) | (refine store_frame p (by repeat (first | exact Upd.head _ | apply Upd.tail)) rfl ?_) | (refine store_frame q (by repeat (first | exact Upd.head _ | apply Upd.tail)) rfl ?_) | (refine CallVC.hearW rfl (by repeat (first | exact Take.head _ | apply Take.tail)) hOq (by repeat (first | exact List.Sublist.refl _ | exact List.nil_sublist _ | exact List.sublist_append_right _ _ | refine List.Sublist.trans ?_ (List.sublist_append_left _ _) | refine List.Sublist.cons _ ?_)) usual_ok rfl (wait1_in (by decide)) ((congrArg (fun s => hearX usualC 0 _ s _) hqs).trans (hear_early h16 (by decide) (now := 4999) (t := 5000) (by decide) (by decide))) (fun A4 c4 E4 hl4 hO4 => ?_)) | (refine CallVC.hearW rfl (by repeat (first | exact Take.head _ | apply Take.tail)) hOq (by repeat (first | exact List.Sublist.refl _ | exact List.nil_sublist _ | exact List.sublist_append_right _ _ | refine List.Sublist.trans ?_ (List.sublist_append_left _ _) | refine List.Sublist.cons _ ?_)) usual_ok rfl (wait1_in (by decide)) ((congrArg (fun s => hearX usualC 0 _ s _) hqs).trans (hear_yes1 h16 (by decide) (now := 5000 + wt) (t := 5000) (by decide) (by omega) (by omega) (by omega))) (fun A5 c5 E5 hl5 hO5 => ?_)) | (refine CallVC.hearW rfl (by repeat (first | exact Take.head _ | apply Take.tail)) hOq (by repeat (first | exact List.Sublist.refl _ | exact List.nil_sublist _ | exact List.sublist_append_right _ _ | refine List.Sublist.trans ?_ (List.sublist_append_left _ _) | refine List.Sublist.cons _ ?_)) usual_ok rfl InTime.none ((congrArg (fun s => hearX usualC 0 _ s _) hqs).trans (hear_nil h16 (by decide) ⟨by omega, by omega⟩)) (fun A6 c6 E6 hl6 hO6 => ?_)) | refine CallVC.val (fun w2 h2 => rmost_v wt 3 w2) ?_ | (refine CallVC.val (v := .bool false) (fun w2 h2 => by have := easked_v epa usualC ⟨mba, 0, none⟩ m cma 0 (firstOf 1) (0#64 + 1#64) wait0 w2 1 (by decide) rfl (at_in (by repeat (first | exact List.Mem.head _ | refine List.Mem.tail _ ?_)) h2); rwa [if_neg (by decide)] at this) ?_) | (refine QuietVC.val (fun w2 h2 => awake23_v w2) ?_) | (refine CallVC.val (fun w2 h2 => awake23_v w2) ?_) | refine Need.au ?_ | (refine Split.mk (fun hsplit => ?_) (fun hsplit => ?_) <;> (try simp only [List.cons.injEq, and_true, true_and, not_true_eq_false, not_false_eq_true] at hsplit) <;> try (exfalso; omega)) | refine Pick.au ?_ | refine store_au ?_ | refine Any.mk (fun _ => ?_) | refine Both.mk ?_ ?_)); all_goals (try (conv => whnf))
    exact Done.mk rfl
theorem once_law (A : Option Addr) (m : List B8) (ck : Nat) (wt : Int) (hwt : 0 ≤ wt ∧ wt ≤ 65535) (ag : Bool) (w : World) (hck : m.length ≤ ck) (hA : At w A (m.map b8)) : Val Tryz.prog 8 [.slice A m.length ck, .int .u16 wt, .bool ag] w (.bool true) := by
  by_cases h : m.length = 16
  · cases hag : ag
    · exact hag ▸ once_first A m ck wt hwt ag w hck hA h hag
    · exact hag ▸ once_again A m ck wt hwt ag w hck hA h hag
  · exact once_no A m ck wt hwt ag w hck hA h
end
end Go.Proofs.YtnlheljpagpiiaaGreat
