/-
  A frame of bytes, opened with a key; program and document; every input.
-/
import Derived.Test.YtnlheljpagpiiaaGreatIa
set_option linter.unusedVariables false
set_option linter.unusedSimpArgs false
set_option maxRecDepth 100000
set_option maxHeartbeats 8000000
namespace Go.Proofs.YtnlheljpagpiiaaGreat
open Go
theorem is_ite (e g : Int) (w : World) : Val Tryz.prog 82 [.iface 130 (.agg #[.int .i64 e]), .iface 26 (.int .i64 g)] w (if e = g then .bool true else .bool false) := by
  have h := is_v e g w
  by_cases he : e = g
  · rw [if_pos he]; rw [beq_iff_eq.2 he] at h; exact h
  · rw [if_neg he]; rw [beq_false_of_ne he] at h; exact h
theorem number_v (e : Int) (he : e = 3 ∨ e = 4 ∨ e = 8 ∨ e = 13) (w : World) : Val Tryz.prog 50 [.iface 130 (.agg #[.int .i64 e])] w (.int .i64 e) := by
  refine val_vc tab_ok Tryz.func50 rfl rfl ?_
  repeat' ((try (conv => whnf)); (first | refine Need.au ?_ | (refine Split.mk (fun hsplit => ?_) (fun hsplit => ?_) <;> (try simp only [List.cons.injEq, and_true, true_and, not_true_eq_false, not_false_eq_true] at hsplit) <;> try (exfalso; omega)) | refine Pick.au ?_ | refine store_au ?_ | refine Any.mk (fun _ => ?_) | refine Both.mk ?_ ?_)); all_goals (try (conv => whnf))
  refine LoopVC.mk (fun m env hs => ∃ (i : Nat), i + m = 5 ∧ (0 < i → e ≠ 1) ∧ (1 < i → e ≠ 3) ∧ (2 < i → e ≠ 4) ∧ (3 < i → e ≠ 8) ∧ (4 < i → e ≠ 13) ∧ env = [(0, .iface 130 (.agg #[.int .i64 e])), (5, .agg #[.int .i64 1, .int .i64 3, .int .i64 4, .int .i64 8, .int .i64 13]), (6, .int .i64 (i : Int))] ∧ hs = []) 5
    (Weak.mk (Sub.cons rfl (Sub.cons rfl (Sub.cons rfl Sub.nil))) (List.Sublist.refl _) ⟨0, by omega, by omega, by omega, by omega, by omega, by omega, rfl, rfl⟩) ?_
  rintro m env hs ⟨i, hm, h1, h2, h3, h4, h5, rfl, rfl⟩
  rcases (by omega : i = 0 ∨ i = 1 ∨ i = 2 ∨ i = 3 ∨ i = 4 ∨ i = 5) with rfl | rfl | rfl | rfl | rfl | rfl
  all_goals
    repeat' ((try (conv => whnf)); (first | (refine CallVC.ite (fun w2 h2 => is_ite e _ w2) (fun hsplit => ?_) (fun hsplit => ?_)) | refine Need.au ?_ | (refine Split.mk (fun hsplit => ?_) (fun hsplit => ?_) <;> (try simp only [List.cons.injEq, and_true, true_and, not_true_eq_false, not_false_eq_true] at hsplit) <;> try (exfalso; omega)) | refine Pick.au ?_ | refine store_au ?_ | refine Any.mk (fun _ => ?_) | refine Both.mk ?_ ?_)); all_goals (try (conv => whnf))
    all_goals first | (exfalso; omega) | exact Done.mk (by rw [hsplit]; rfl) | exact again (m - 1) (by omega) (Sub.cons rfl (Sub.cons rfl (Sub.cons rfl Sub.nil))) (List.nil_sublist _) ⟨1, by omega, by omega, by omega, by omega, by omega, by omega, rfl, rfl⟩ | exact again (m - 1) (by omega) (Sub.cons rfl (Sub.cons rfl (Sub.cons rfl Sub.nil))) (List.nil_sublist _) ⟨2, by omega, by omega, by omega, by omega, by omega, by omega, rfl, rfl⟩ | exact again (m - 1) (by omega) (Sub.cons rfl (Sub.cons rfl (Sub.cons rfl Sub.nil))) (List.nil_sublist _) ⟨3, by omega, by omega, by omega, by omega, by omega, by omega, rfl, rfl⟩ | exact again (m - 1) (by omega) (Sub.cons rfl (Sub.cons rfl (Sub.cons rfl Sub.nil))) (List.nil_sublist _) ⟨4, by omega, by omega, by omega, by omega, by omega, by omega, rfl, rfl⟩ | exact again (m - 1) (by omega) (Sub.cons rfl (Sub.cons rfl (Sub.cons rfl Sub.nil))) (List.nil_sublist _) ⟨5, by omega, by omega, by omega, by omega, by omega, by omega, rfl, rfl⟩
section
variable {G : Cx} {hs : Hp}
theorem fown_at {f : Fr} {E : Hp} {w : World} (h : FOwn f E) (hE : List.Sublist E hs) (hw : St G hs w) : FAt w f := by
  obtain ⟨E1, E2, E3, h1, h2, h3, rfl⟩ := h
  exact ⟨ownK_at (own_k h1) (((List.sublist_append_left _ _).trans (List.sublist_append_left _ _)).trans hE) hw, ownK_at (own_k h2) (((List.sublist_append_right _ _).trans (List.sublist_append_left _ _)).trans hE) hw, ownK_at (own_k h3) ((List.sublist_append_right _ _).trans hE) hw⟩
theorem CallVC.givesF {f : Nat} {args : List Value} {K : Value → Hp → Prop} {s : FrS} {e : Int} (hc : ∀ w, St G hs w → Ret G.P f args w (GivesF (s, e)))
    (hk : ∀ f E, f.s = s → FOwn f E → K (.tuple #[f.v, .int .i64 e]) (hs ++ E)) : CallVC G hs f args K := by
  refine ⟨K, fun w hw => (hc w hw).calls.mono ?_, fun _ _ h => h⟩
  rintro e' w' ⟨v, hs2, rfl, ⟨f, E, rfl, h1, h2, hsub⟩, hst⟩
  exact ⟨_, hs ++ E, rfl, hk f E h1 h2, ((hw.trans hst).sub (hsub.append_right hs)).perm List.perm_append_comm⟩
end
/-- What an opened frame is. -/
def openX (l key : List B8) : FrS × Int := if (getX l).2 = 0 then (if holdsX (getX l).1 key = true then ((getX l).1, 0) else (FrS.zero, 13)) else (FrS.zero, (getX l).2)
theorem getX_err {l : List B8} (h : (getX l).2 ≠ 0) : (getX l).2 = 3 ∨ (getX l).2 = 4 ∨ (getX l).2 = 8 := by
  unfold getX at h ⊢
  split
  · exact .inl rfl
  · rename_i h1
    split
    · rename_i h2
      split
      · rename_i h3
        rw [if_neg h1, if_pos h2, if_pos h3] at h
        exact absurd rfl h
      · exact .inr (.inl rfl)
    · exact .inr (.inr rfl)
attribute [local irreducible] bitsOf shlOf shrOf pack numBits bytesBits coreBits crcSum tagOf macKey FrS.ok frameBytes sealX getX holdsX
/-- A frame that is handed back beside an error. -/
def GivesE2 (s : FrS) (ev : Value) (v : Value) (hs : Hp) : Prop := ∃ f E, v = .tuple #[f.v, ev] ∧ f.s = s ∧ FOwn f E ∧ List.Sublist E hs
theorem GivesE2.no {ev v : Value} {hs : Hp} (h : v = .tuple #[Fr.zero.v, ev]) : GivesE2 FrS.zero ev v hs := ⟨Fr.zero, [], h, rfl, ⟨[], [], [], Own.none, Own.none, Own.none, rfl⟩, List.nil_sublist _⟩
theorem CallVC.givesE2 {G : Cx} {hs : Hp} {f : Nat} {args : List Value} {K : Value → Hp → Prop} {s : FrS} {ev : Value} (hc : ∀ w, St G hs w → Ret G.P f args w (GivesE2 s ev))
    (hk : ∀ f E, f.s = s → FOwn f E → K (.tuple #[f.v, ev]) (hs ++ E)) : CallVC G hs f args K := by
  refine ⟨K, fun w hw => (hc w hw).calls.mono ?_, fun _ _ h => h⟩
  rintro e' w' ⟨v, hs2, rfl, ⟨f, E, rfl, h1, h2, hsub⟩, hst⟩
  exact ⟨_, hs ++ E, rfl, hk f E h1 h2, ((hw.trans hst).sub (hsub.append_right hs)).perm List.perm_append_comm⟩
theorem open_err (A : Option Addr) (l : List B8) (cl : Nat) (B : Option Addr) (key : List B8) (ck : Nat) (hl : l.length ≤ 140737488351232) (hcl : l.length ≤ cl) (hck : key.length ≤ ck) (w : World) (hA : At w A (l.map b8)) (hB : At w B (key.map b8)) (s : FrS) (e : Int) (hr : getX l = (s, e)) (he : e ≠ 0) : Ret Tryz.prog 49 [.slice A l.length cl, .slice B key.length ck] w (GivesE2 FrS.zero (.iface 130 (.agg #[.int .i64 e]))) := by
  refine ret_vc tab_ok Tryz.func49 rfl rfl ?_
  repeat' ((try (conv => whnf)); (first | (refine CallVC.givesF (fun w2 h2 => hr ▸ fget_r A l cl hl hcl w2 (hA.here h2 (fun _ _ => by simp))) (fun f E hf hO => ?_)) | (refine store_frame f (by repeat (first | exact Upd.head _ | apply Upd.tail)) rfl ?_) | refine Need.au ?_ | (refine Split.mk (fun hsplit => ?_) (fun hsplit => ?_) <;> (try simp only [List.cons.injEq, and_true, true_and, not_true_eq_false, not_false_eq_true] at hsplit) <;> try (exfalso; omega)) | refine Pick.au ?_ | refine store_au ?_ | refine Any.mk (fun _ => ?_) | refine Both.mk ?_ ?_)); all_goals (try (conv => whnf))
  all_goals exact Done.mk (GivesE2.no rfl)
theorem open_tag (A : Option Addr) (l : List B8) (cl : Nat) (B : Option Addr) (key : List B8) (ck : Nat) (hl : l.length ≤ 140737488351232) (hcl : l.length ≤ cl) (hck : key.length ≤ ck) (w : World) (hA : At w A (l.map b8)) (hB : At w B (key.map b8)) (s : FrS) (hr : getX l = (s, 0)) (hh : holdsX s key = false) : Ret Tryz.prog 49 [.slice A l.length cl, .slice B key.length ck] w (GivesE2 FrS.zero (.iface 130 (.agg #[.int .i64 13]))) := by
  refine ret_vc tab_ok Tryz.func49 rfl rfl ?_
  repeat' ((try (conv => whnf)); (first | (refine CallVC.givesF (fun w2 h2 => hr ▸ fget_r A l cl hl hcl w2 (hA.here h2 (fun _ _ => by simp))) (fun f E hf hO => ?_)) | (refine store_frame f (by repeat (first | exact Upd.head _ | apply Upd.tail)) rfl ?_) | (refine CallVC.val (v := .bool false) (fun w2 h2 => by have := holds_v f B key ck hck w2 (hB.here h2 (fun _ _ => by simp)) (fown_at hO (by repeat (first | exact List.Sublist.refl _ | exact List.nil_sublist _ | exact List.sublist_append_right _ _ | refine List.Sublist.trans ?_ (List.sublist_append_left _ _) | refine List.Sublist.cons _ ?_)) h2); rwa [hf, hh] at this) ?_) | refine Need.au ?_ | (refine Split.mk (fun hsplit => ?_) (fun hsplit => ?_) <;> (try simp only [List.cons.injEq, and_true, true_and, not_true_eq_false, not_false_eq_true] at hsplit) <;> try (exfalso; omega)) | refine Pick.au ?_ | refine store_au ?_ | refine Any.mk (fun _ => ?_) | refine Both.mk ?_ ?_)); all_goals (try (conv => whnf))
  all_goals exact Done.mk (GivesE2.no rfl)
theorem open_fine (A : Option Addr) (l : List B8) (cl : Nat) (B : Option Addr) (key : List B8) (ck : Nat) (hl : l.length ≤ 140737488351232) (hcl : l.length ≤ cl) (hck : key.length ≤ ck) (w : World) (hA : At w A (l.map b8)) (hB : At w B (key.map b8)) (s : FrS) (hr : getX l = (s, 0)) (hh : holdsX s key = true) : Ret Tryz.prog 49 [.slice A l.length cl, .slice B key.length ck] w (GivesE2 s .nilIface) := by
  refine ret_vc tab_ok Tryz.func49 rfl rfl ?_
  repeat' ((try (conv => whnf)); (first | (refine CallVC.givesF (fun w2 h2 => hr ▸ fget_r A l cl hl hcl w2 (hA.here h2 (fun _ _ => by simp))) (fun f E hf hO => ?_)) | (refine store_frame f (by repeat (first | exact Upd.head _ | apply Upd.tail)) rfl ?_) | (refine CallVC.val (v := .bool true) (fun w2 h2 => by have := holds_v f B key ck hck w2 (hB.here h2 (fun _ _ => by simp)) (fown_at hO (by repeat (first | exact List.Sublist.refl _ | exact List.nil_sublist _ | exact List.sublist_append_right _ _ | refine List.Sublist.trans ?_ (List.sublist_append_left _ _) | refine List.Sublist.cons _ ?_)) h2); rwa [hf, hh] at this) ?_) | refine Need.au ?_ | (refine Split.mk (fun hsplit => ?_) (fun hsplit => ?_) <;> (try simp only [List.cons.injEq, and_true, true_and, not_true_eq_false, not_false_eq_true] at hsplit) <;> try (exfalso; omega)) | refine Pick.au ?_ | refine store_au ?_ | refine Any.mk (fun _ => ?_) | refine Both.mk ?_ ?_)); all_goals (try (conv => whnf))
  exact Done.mk ⟨f, E, rfl, hf, hO, (by repeat (first | exact List.Sublist.refl _ | exact List.nil_sublist _ | exact List.sublist_append_right _ _ | refine List.Sublist.trans ?_ (List.sublist_append_left _ _) | refine List.Sublist.cons _ ?_))⟩
theorem sopen_r (A : Option Addr) (l : List B8) (cl : Nat) (B : Option Addr) (key : List B8) (ck : Nat) (hl : l.length ≤ 140737488351232) (hcl : l.length ≤ cl) (hck : key.length ≤ ck) (w : World) (hA : At w A (l.map b8)) (hB : At w B (key.map b8)) : Ret Tryz.prog 18 [.slice A l.length cl, .slice B key.length ck] w (GivesF (openX l key)) := by
  unfold openX
  obtain ⟨s, e, hr⟩ : ∃ s e, getX l = (s, e) := ⟨_, _, rfl⟩
  have he3 := @getX_err l
  rw [hr] at he3 ⊢
  dsimp only at he3 ⊢
  by_cases he : e = 0
  · subst he
    rw [if_pos rfl]
    cases hh : holdsX s key
    · rw [if_neg (by decide)]
      refine ret_vc tab_ok Tryz.func18 rfl rfl ?_
      repeat' ((try (conv => whnf)); (first | (refine CallVC.givesE2 (fun w2 h2 => open_tag A l cl B key ck hl hcl hck w2 (hA.here h2 (fun _ _ => by simp)) (hB.here h2 (fun _ _ => by simp)) s hr hh) (fun f E hf hO => ?_)) | (refine store_frame f (by repeat (first | exact Upd.head _ | apply Upd.tail)) rfl ?_) | (refine CallVC.val (fun w2 h2 => number_v 13 (by decide) w2) ?_) | refine Need.au ?_ | (refine Split.mk (fun hsplit => ?_) (fun hsplit => ?_) <;> (try simp only [List.cons.injEq, and_true, true_and, not_true_eq_false, not_false_eq_true] at hsplit) <;> try (exfalso; omega)) | refine Pick.au ?_ | refine store_au ?_ | refine Any.mk (fun _ => ?_) | refine Both.mk ?_ ?_)); all_goals (try (conv => whnf))
      exact Done.mk (GivesF.no rfl)
    · rw [if_pos rfl]
      refine ret_vc tab_ok Tryz.func18 rfl rfl ?_
      repeat' ((try (conv => whnf)); (first | (refine CallVC.givesE2 (fun w2 h2 => open_fine A l cl B key ck hl hcl hck w2 (hA.here h2 (fun _ _ => by simp)) (hB.here h2 (fun _ _ => by simp)) s hr hh) (fun f E hf hO => ?_)) | (refine store_frame f (by repeat (first | exact Upd.head _ | apply Upd.tail)) rfl ?_) | refine Need.au ?_ | (refine Split.mk (fun hsplit => ?_) (fun hsplit => ?_) <;> (try simp only [List.cons.injEq, and_true, true_and, not_true_eq_false, not_false_eq_true] at hsplit) <;> try (exfalso; omega)) | refine Pick.au ?_ | refine store_au ?_ | refine Any.mk (fun _ => ?_) | refine Both.mk ?_ ?_)); all_goals (try (conv => whnf))
      exact Done.mk ⟨f, E, rfl, hf, hO, (by repeat (first | exact List.Sublist.refl _ | exact List.nil_sublist _ | exact List.sublist_append_right _ _ | refine List.Sublist.trans ?_ (List.sublist_append_left _ _) | refine List.Sublist.cons _ ?_))⟩
  · rw [if_neg he]
    have he4 := he3 he
    refine ret_vc tab_ok Tryz.func18 rfl rfl ?_
    repeat' ((try (conv => whnf)); (first | (refine CallVC.givesE2 (fun w2 h2 => open_err A l cl B key ck hl hcl hck w2 (hA.here h2 (fun _ _ => by simp)) (hB.here h2 (fun _ _ => by simp)) s e hr he) (fun f E hf hO => ?_)) | (refine store_frame f (by repeat (first | exact Upd.head _ | apply Upd.tail)) rfl ?_) | (refine CallVC.val (fun w2 h2 => number_v e (by omega) w2) ?_) | refine Need.au ?_ | (refine Split.mk (fun hsplit => ?_) (fun hsplit => ?_) <;> (try simp only [List.cons.injEq, and_true, true_and, not_true_eq_false, not_false_eq_true] at hsplit) <;> try (exfalso; omega)) | refine Pick.au ?_ | refine store_au ?_ | refine Any.mk (fun _ => ?_) | refine Both.mk ?_ ?_)); all_goals (try (conv => whnf))
    exact Done.mk (GivesF.no rfl)
theorem rsopen_r (A : Option Addr) (l : List B8) (cl : Nat) (B : Option Addr) (key : List B8) (ck : Nat) (hl : l.length ≤ 140737488351232) (hcl : l.length ≤ cl) (hck : key.length ≤ ck) (w : World) (hA : At w A (l.map b8)) (hB : At w B (key.map b8)) : Ret Tryz.prog 19 [.slice A l.length cl, .slice B key.length ck] w (GivesF (openX l key)) := by
  unfold openX
  obtain ⟨s, e, hr⟩ : ∃ s e, getX l = (s, e) := ⟨_, _, rfl⟩
  rw [hr]
  dsimp only
  by_cases he : e = 0
  · subst he
    rw [if_pos rfl]
    cases hh : holdsX s key
    · rw [if_neg (by decide)]
      refine ret_vc tab_ok Tryz.func19 rfl rfl ?_
      repeat' ((try (conv => whnf)); (first | (refine CallVC.givesF (fun w2 h2 => hr ▸ rfget_r A l cl hl hcl w2 (hA.here h2 (fun _ _ => by simp))) (fun f E hf hO => ?_)) | (refine store_frame f (by repeat (first | exact Upd.head _ | apply Upd.tail)) rfl ?_) | (refine CallVC.val (v := .bool false) (fun w2 h2 => by have := rholds_v f B key ck hck w2 (hB.here h2 (fun _ _ => by simp)) (fown_at hO (by repeat (first | exact List.Sublist.refl _ | exact List.nil_sublist _ | exact List.sublist_append_right _ _ | refine List.Sublist.trans ?_ (List.sublist_append_left _ _) | refine List.Sublist.cons _ ?_)) h2); rwa [hf, hh] at this) ?_) | refine Need.au ?_ | (refine Split.mk (fun hsplit => ?_) (fun hsplit => ?_) <;> (try simp only [List.cons.injEq, and_true, true_and, not_true_eq_false, not_false_eq_true] at hsplit) <;> try (exfalso; omega)) | refine Pick.au ?_ | refine store_au ?_ | refine Any.mk (fun _ => ?_) | refine Both.mk ?_ ?_)); all_goals (try (conv => whnf))
      exact Done.mk (GivesF.no rfl)
    · rw [if_pos rfl]
      refine ret_vc tab_ok Tryz.func19 rfl rfl ?_
      repeat' ((try (conv => whnf)); (first | (refine CallVC.givesF (fun w2 h2 => hr ▸ rfget_r A l cl hl hcl w2 (hA.here h2 (fun _ _ => by simp))) (fun f E hf hO => ?_)) | (refine store_frame f (by repeat (first | exact Upd.head _ | apply Upd.tail)) rfl ?_) | (refine CallVC.val (v := .bool true) (fun w2 h2 => by have := rholds_v f B key ck hck w2 (hB.here h2 (fun _ _ => by simp)) (fown_at hO (by repeat (first | exact List.Sublist.refl _ | exact List.nil_sublist _ | exact List.sublist_append_right _ _ | refine List.Sublist.trans ?_ (List.sublist_append_left _ _) | refine List.Sublist.cons _ ?_)) h2); rwa [hf, hh] at this) ?_) | refine Need.au ?_ | (refine Split.mk (fun hsplit => ?_) (fun hsplit => ?_) <;> (try simp only [List.cons.injEq, and_true, true_and, not_true_eq_false, not_false_eq_true] at hsplit) <;> try (exfalso; omega)) | refine Pick.au ?_ | refine store_au ?_ | refine Any.mk (fun _ => ?_) | refine Both.mk ?_ ?_)); all_goals (try (conv => whnf))
      exact Done.mk ⟨f, E, rfl, hf, hO, (by repeat (first | exact List.Sublist.refl _ | exact List.nil_sublist _ | exact List.sublist_append_right _ _ | refine List.Sublist.trans ?_ (List.sublist_append_left _ _) | refine List.Sublist.cons _ ?_))⟩
  · rw [if_neg he]
    refine ret_vc tab_ok Tryz.func19 rfl rfl ?_
    repeat' ((try (conv => whnf)); (first | (refine CallVC.givesF (fun w2 h2 => hr ▸ rfget_r A l cl hl hcl w2 (hA.here h2 (fun _ _ => by simp))) (fun f E hf hO => ?_)) | (refine store_frame f (by repeat (first | exact Upd.head _ | apply Upd.tail)) rfl ?_) | refine Need.au ?_ | (refine Split.mk (fun hsplit => ?_) (fun hsplit => ?_) <;> (try simp only [List.cons.injEq, and_true, true_and, not_true_eq_false, not_false_eq_true] at hsplit) <;> try (exfalso; omega)) | refine Pick.au ?_ | refine store_au ?_ | refine Any.mk (fun _ => ?_) | refine Both.mk ?_ ?_)); all_goals (try (conv => whnf))
    exact Done.mk (GivesF.no rfl)
end Go.Proofs.YtnlheljpagpiiaaGreat
