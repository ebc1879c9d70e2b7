/-
  Pebbles: the walk from a stone down to an index; every input.
-/
import Derived.Test.YtamibdabhgnfcaaCd
set_option linter.unusedVariables false
set_option linter.unusedSimpArgs false
set_option maxRecDepth 100000
set_option maxHeartbeats 8000000
namespace Go.Proofs.Ytamibdabhgnfcaa
open Go
attribute [local irreducible] bitsOf shlOf shrOf
abbrev pebE (bp : Nat) (lv : Value) (n told steps : Int) (cv : Value) : Ent := ⟨bp, [lv, .int .i64 n, .int .i64 told, .int .i64 steps, cv], 53, (0, 0)⟩
/-- The key on the way: the one handed in, or one of the walk's own. -/
inductive WK (key : List B8) (A : Option Addr) (ck : Nat) : Nat → Option Addr → Nat → Hp → Prop
  | old : WK key A ck 0 A ck []
  | own (d b : Nat) (r : List Value) (fr : Nat × Nat) (c : Nat) (hc : c = ((stepN key (d + 1)).map b8 ++ r).length) (hf : Soft fr ((stepN key (d + 1)).map b8 ++ r).length) : WK key A ck (d + 1) (some ⟨b, 0, none⟩) c [⟨b, (stepN key (d + 1)).map b8 ++ r, 5, fr⟩]
theorem walk_m (bp bx : Nat) (lv : Value) (n told steps : Int) (cv : Value) (si to_ : Int) (A : Option Addr) (key : List B8) (ck : Nat) (hl : key.length = 16) (hck : key.length ≤ ck) (hlt : to_ < si) (h0 : 0 ≤ to_) (hsi : si ≤ 256) (hst : 0 ≤ steps ∧ steps ≤ 1000000) (hne : bx ≠ bp) (w : World)
    (hA : At w A (key.map b8)) (hx : At w (some ⟨bx, 0, none⟩) [.pointer (some ⟨bp, 0, none⟩)]) (hd : ∀ a, A = some a → a.block ≠ bp) (hw : St ⟨Try.prog, w, [bp]⟩ [pebE bp lv n told steps cv] w) :
    Mut Try.prog 49 [.agg #[.int .i64 si, .slice A key.length ck], .int .i64 to_, .pointer (some ⟨bx, 0, none⟩)] w [pebE bp lv n told steps cv] fun v hs2 => ∃ L, List.Sublist L hs2 ∧ ∃ x : KE, x.l = stepN key (si - to_).toNat ∧ Soft x.fr x.ent.cs.length ∧
      v = .agg #[.int .i64 to_, x.slc] ∧ L = [x.ent, pebE bp lv n told (steps + (si - to_)) cv] := by
  rw [hl]
  refine mut_vc tab_ok Try.func49 rfl rfl hw ?_
  repeat' ((try (conv => whnf)); (first | refine Need.mk (by omega) ?_ | refine Need.mk (by decide +kernel) ?_ | refine Need.mk (by rfl) ?_ | refine Need.mk ⟨rfl, Nat.le_of_ble_eq_true rfl⟩ ?_ | (refine Split.mk (fun hsplit => ?_) (fun hsplit => ?_) <;> (try simp only [List.cons.injEq, and_true, true_and, not_true_eq_false, not_false_eq_true] at hsplit) <;> try (exfalso; omega)) | refine Pick.mk _ (fit_i64 (by omega) (by omega)) ?_ | refine Pick.mk _ (fit_u64 (by omega) (by omega)) ?_ | refine Pick.mk _ (fit_u32 (by omega) (by omega)) ?_ | refine Pick.mk _ (fit_u8 (by omega) (by omega)) ?_ | refine Pick.mk _ (quo_i64 (by omega) (by omega) (by omega)) ?_ | refine Pick.mk _ (rem_pos (by omega)) ?_ | refine Pick.mk _ (cellIs_at (by repeat (first | exact List.Mem.head _ | refine List.Mem.tail _ ?_)) rfl) ?_ | refine Pick.mk _ (cellIs_old (by assumption) (by simp)) ?_ | refine Pick.mk _ (pick_whole (by repeat (first | exact List.Mem.head _ | refine List.Mem.tail _ ?_)) (by rfl)) ?_ | refine Pick.mk _ (pick_part (by repeat (first | exact List.Mem.head _ | refine List.Mem.tail _ ?_)) (by rfl)) ?_ | refine store_at (by repeat (first | exact Upd.head _ | apply Upd.tail)) soft0 (by rfl) (by rfl) ?_ | refine Any.mk (fun _ => ?_) | refine Need.mk (List.Sublist.cons _ (List.Sublist.refl _)) ?_ | refine Need.mk (List.Sublist.refl _) ?_ | refine Both.mk ?_ ?_)); all_goals (try (conv => whnf))
  rename_i bs b5
  refine LoopVC.mk (fun m env hs => ∃ (d : Nat) (j st : Int) (A' : Option Addr) (c : Nat) (E : Hp), j = si - d ∧ st = steps + d ∧ d + m = (si - to_).toNat ∧ WK key A ck d A' c E ∧
    env = [(1, .int .i64 to_), (2, .pointer (some ⟨bx, 0, none⟩)), (3, .pointer (some ⟨bs, 0, none⟩)), (5, .pointer (some ⟨b5, 0, none⟩))] ∧
    hs = E ++ [⟨b5, [.int .i64 0, .slice none 0 0], 66, (0, 0)⟩, ⟨bs, [.int .i64 j, .slice A' 16 c], 66, (0, 0)⟩, pebE bp lv n told st cv]) (si - to_).toNat
    (Weak.mk (Sub.cons rfl (Sub.cons rfl (Sub.cons rfl (Sub.cons rfl Sub.nil)))) (List.Sublist.refl _) ⟨0, si, steps, A, ck, [], by omega, by omega, by omega, WK.old, rfl, rfl⟩) ?_
  rintro m env hs ⟨d, j, st, A', c, E, hj, hs1, hm, hk, rfl, rfl⟩
  cases hk with
  | old =>
    have hnx := stepN_next hl 0
    have hl17 := stepN_len hl 1
    repeat' ((try (conv => whnf)); (first | (refine CallVC.givesXP (xs := stepN key (0 + 1)) (e := 0) (fun w2 h2 => by have := step_r A key ck hck w2 (hA.here h2 (fun a ha => by have := hd a ha; simpa using this)); rw [show nextOf key sChain = (stepN key (0 + 1), 0) from hnx, hl] at this; exact this) hl17 (by omega) (fun bk rk frk c hc2 hfk => ?_)) | refine Pick.mk _ (cell_known hx (by simpa using hne) rfl) ?_ | refine Need.mk (by omega) ?_ | refine Need.mk (by decide +kernel) ?_ | refine Need.mk (by rfl) ?_ | refine Need.mk ⟨rfl, Nat.le_of_ble_eq_true rfl⟩ ?_ | (refine Split.mk (fun hsplit => ?_) (fun hsplit => ?_) <;> (try simp only [List.cons.injEq, and_true, true_and, not_true_eq_false, not_false_eq_true] at hsplit) <;> try (exfalso; omega)) | refine Pick.mk _ (fit_i64 (by omega) (by omega)) ?_ | refine Pick.mk _ (fit_u64 (by omega) (by omega)) ?_ | refine Pick.mk _ (fit_u32 (by omega) (by omega)) ?_ | refine Pick.mk _ (fit_u8 (by omega) (by omega)) ?_ | refine Pick.mk _ (quo_i64 (by omega) (by omega) (by omega)) ?_ | refine Pick.mk _ (rem_pos (by omega)) ?_ | refine Pick.mk _ (cellIs_at (by repeat (first | exact List.Mem.head _ | refine List.Mem.tail _ ?_)) rfl) ?_ | refine Pick.mk _ (cellIs_old (by assumption) (by simp)) ?_ | refine Pick.mk _ (pick_whole (by repeat (first | exact List.Mem.head _ | refine List.Mem.tail _ ?_)) (by rfl)) ?_ | refine Pick.mk _ (pick_part (by repeat (first | exact List.Mem.head _ | refine List.Mem.tail _ ?_)) (by rfl)) ?_ | refine store_at (by repeat (first | exact Upd.head _ | apply Upd.tail)) soft0 (by rfl) (by rfl) ?_ | refine Any.mk (fun _ => ?_) | refine Need.mk (List.Sublist.cons _ (List.Sublist.refl _)) ?_ | refine Need.mk (List.Sublist.refl _) ?_ | refine Both.mk ?_ ?_)); all_goals (try (conv => whnf))
    exact again (m - 1) (by omega) (Sub.cons rfl (Sub.cons rfl (Sub.cons rfl (Sub.cons rfl Sub.nil)))) (List.Sublist.refl _) ⟨0 + 1, _, _, _, _, _, by omega, by omega, by omega, WK.own 0 bk rk frk c hc2 hfk, rfl, rfl⟩
  | own d b r fr c hc hf =>
    have hnx := stepN_next hl (d + 1)
    have hl16 := stepN_len hl (d + 1)
    have hl17 := stepN_len hl (d + 1 + 1)
    repeat' ((try (conv => whnf)); (first | (refine CallVC.givesXP (xs := stepN key (d + 1 + 1)) (e := 0) (fun w2 h2 => by have := step_r (some ⟨b, 0, none⟩) (stepN key (d + 1)) c (by rw [hc, List.length_append, List.length_map]; omega) w2 (at_pre (by repeat (first | exact List.Mem.head _ | refine List.Mem.tail _ ?_)) h2); rw [hnx, hl16] at this; exact this) hl17 (by omega) (fun bk rk frk c hc2 hfk => ?_)) | refine Pick.mk _ (cell_known hx (by simpa using hne) rfl) ?_ | refine Need.mk (by omega) ?_ | refine Need.mk (by decide +kernel) ?_ | refine Need.mk (by rfl) ?_ | refine Need.mk ⟨rfl, Nat.le_of_ble_eq_true rfl⟩ ?_ | (refine Split.mk (fun hsplit => ?_) (fun hsplit => ?_) <;> (try simp only [List.cons.injEq, and_true, true_and, not_true_eq_false, not_false_eq_true] at hsplit) <;> try (exfalso; omega)) | refine Pick.mk _ (fit_i64 (by omega) (by omega)) ?_ | refine Pick.mk _ (fit_u64 (by omega) (by omega)) ?_ | refine Pick.mk _ (fit_u32 (by omega) (by omega)) ?_ | refine Pick.mk _ (fit_u8 (by omega) (by omega)) ?_ | refine Pick.mk _ (quo_i64 (by omega) (by omega) (by omega)) ?_ | refine Pick.mk _ (rem_pos (by omega)) ?_ | refine Pick.mk _ (cellIs_at (by repeat (first | exact List.Mem.head _ | refine List.Mem.tail _ ?_)) rfl) ?_ | refine Pick.mk _ (cellIs_old (by assumption) (by simp)) ?_ | refine Pick.mk _ (pick_whole (by repeat (first | exact List.Mem.head _ | refine List.Mem.tail _ ?_)) (by rfl)) ?_ | refine Pick.mk _ (pick_part (by repeat (first | exact List.Mem.head _ | refine List.Mem.tail _ ?_)) (by rfl)) ?_ | refine store_at (by repeat (first | exact Upd.head _ | apply Upd.tail)) soft0 (by rfl) (by rfl) ?_ | refine Any.mk (fun _ => ?_) | refine Need.mk (List.Sublist.cons _ (List.Sublist.refl _)) ?_ | refine Need.mk (List.Sublist.refl _) ?_ | refine Both.mk ?_ ?_)); all_goals (try (conv => whnf))
    · exact again (m - 1) (by omega) (Sub.cons rfl (Sub.cons rfl (Sub.cons rfl (Sub.cons rfl Sub.nil)))) (List.Sublist.cons_cons _ (List.Sublist.cons _ (List.Sublist.refl _))) ⟨d + 1 + 1, _, _, _, _, _, by omega, by omega, by omega, WK.own (d + 1) bk rk _ _ hc2 hfk, rfl, rfl⟩
    · have e1 : (si - to_).toNat = d + 1 := by omega
      have e2 : j = to_ := by omega
      have e3 : st = steps + (si - to_) := by omega
      rw [e1, e2, e3]
      have hx2 : (Value.slice (some ⟨b, 0, none⟩) 16 c) = KE.slc ⟨b, stepN key (d + 1), r, fr⟩ := by unfold KE.slc; rw [hl16, hc]
      rw [hx2]
      exact Done.mk ⟨_, List.Sublist.cons_cons _ (List.Sublist.cons _ (List.Sublist.cons _ (List.Sublist.refl _))), ⟨b, stepN key (d + 1), r, fr⟩, rfl, hf, rfl, rfl⟩
end Go.Proofs.Ytamibdabhgnfcaa
