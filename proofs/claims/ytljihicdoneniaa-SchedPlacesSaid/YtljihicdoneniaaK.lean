/-
  Sched: the law SchedPlaces returns true; every input.
-/
import Derived.Test.YtljihicdoneniaaJ
set_option linter.unusedVariables false
set_option linter.unusedSimpArgs false
set_option maxRecDepth 100000
set_option maxHeartbeats 4000000
namespace Go.Proofs.Ytljihicdoneniaa
open Go

/-- The law over answers that agree. -/
theorem places_core (cv : Cfg) (t r s x y z a p q m e1 e2 e3 e4 : Int) (h1 : 0 ≤ e1 ∧ e1 ≤ 1) (h2 : 0 ≤ e2 ∧ e2 ≤ 1) (h3 : 0 ≤ e3 ∧ e3 ≤ 1) (h4 : 0 ≤ e4 ∧ e4 ≤ 1)
    (c1 : ∀ w, Val Try.prog 20 [cv.v, .int .i64 t] w (.tuple #[cellV x y z, .int .i64 e1])) (c2 : ∀ w, Val Try.prog 22 [cv.v, .int .i64 t] w (.tuple #[cellV x y z, .int .i64 e1]))
    (c3 : ∀ w, Val Try.prog 19 [cv.v, .int .i64 r, .int .i64 s] w (.tuple #[.int .i64 a, .int .i64 e2])) (c4 : ∀ w, Val Try.prog 23 [cv.v, .int .i64 r, .int .i64 s] w (.tuple #[.int .i64 a, .int .i64 e2]))
    (c5 : ∀ w, Val Try.prog 24 [cv.v, .int .i64 r, .int .i64 s] w (.tuple #[.int .i64 p, .int .i64 q, .int .i64 e3])) (c6 : ∀ w, Val Try.prog 25 [cv.v, .int .i64 r, .int .i64 s] w (.tuple #[.int .i64 p, .int .i64 q, .int .i64 e3]))
    (c7 : ∀ w, Val Try.prog 21 [cv.v, .int .i64 s, .int .i64 t] w (.tuple #[.int .i64 m, .int .i64 e4])) (c8 : ∀ w, Val Try.prog 26 [cv.v, .int .i64 s, .int .i64 t] w (.tuple #[.int .i64 m, .int .i64 e4])) (w : World) :
    Val Try.prog 7 [cv.v, .int .i64 t, .int .i64 r, .int .i64 s] w (.bool true) := by
  obtain ⟨h1, g1⟩ := h1
  obtain ⟨h2, g2⟩ := h2
  obtain ⟨h3, g3⟩ := h3
  obtain ⟨h4, g4⟩ := h4
  refine val_vc tab_ok Try.func7 rfl rfl ?_
  repeat' ((try (conv => whnf)); (first | refine CallVC.val (fun w _ => c1 w) ?_ | refine CallVC.val (fun w _ => c2 w) ?_ | refine CallVC.val (fun w _ => c3 w) ?_ | refine CallVC.val (fun w _ => c4 w) ?_ | refine CallVC.val (fun w _ => c5 w) ?_ | refine CallVC.val (fun w _ => c6 w) ?_ | refine CallVC.val (fun w _ => c7 w) ?_ | refine CallVC.val (fun w _ => c8 w) ?_ | refine CallVC.val (fun w _ => awake_v w) ?_ | refine Need.mk (by omega) ?_ | refine Need.mk (by kernel_rfl) ?_ | refine Need.mk ⟨rfl, Nat.le_of_ble_eq_true rfl⟩ ?_ | (refine Split.mk (fun hsplit => ?_) (fun hsplit => ?_) <;> (try simp only [List.cons.injEq, and_true, true_and, not_true_eq_false, not_false_eq_true] at hsplit) <;> try (exfalso; omega)) | refine Pick.mk _ (fit_i64 (by omega) (by omega)) ?_ | refine Pick.mk _ (fit_u64 (by omega) (by omega)) ?_ | refine Pick.mk _ (fit_u32 (by omega) (by omega)) ?_ | refine Pick.mk _ (fit_u8 (by omega) (by omega)) ?_ | refine Pick.mk _ (quo_i64 (by omega) (by omega) (by omega)) ?_ | refine Pick.mk _ (rem_pos (by omega)) ?_ | refine Pick.mk _ (cellIs_at (by (first | exact List.Mem.head _ | exact List.Mem.tail _ (List.Mem.head _) | exact List.Mem.tail _ (List.Mem.tail _ (List.Mem.head _)) | exact List.Mem.tail _ (List.Mem.tail _ (List.Mem.tail _ (List.Mem.head _))) | exact List.Mem.tail _ (List.Mem.tail _ (List.Mem.tail _ (List.Mem.tail _ (List.Mem.head _)))) | exact List.Mem.tail _ (List.Mem.tail _ (List.Mem.tail _ (List.Mem.tail _ (List.Mem.tail _ (List.Mem.head _))))) | exact List.Mem.tail _ (List.Mem.tail _ (List.Mem.tail _ (List.Mem.tail _ (List.Mem.tail _ (List.Mem.tail _ (List.Mem.head _)))))) | exact List.Mem.tail _ (List.Mem.tail _ (List.Mem.tail _ (List.Mem.tail _ (List.Mem.tail _ (List.Mem.tail _ (List.Mem.tail _ (List.Mem.head _))))))))) rfl) ?_ | refine Pick.mk _ (cellIs_old (by assumption) (by simp)) ?_ | refine Pick.mk _ (pick_whole (by (first | exact List.Mem.head _ | exact List.Mem.tail _ (List.Mem.head _) | exact List.Mem.tail _ (List.Mem.tail _ (List.Mem.head _)) | exact List.Mem.tail _ (List.Mem.tail _ (List.Mem.tail _ (List.Mem.head _))) | exact List.Mem.tail _ (List.Mem.tail _ (List.Mem.tail _ (List.Mem.tail _ (List.Mem.head _)))) | exact List.Mem.tail _ (List.Mem.tail _ (List.Mem.tail _ (List.Mem.tail _ (List.Mem.tail _ (List.Mem.head _))))) | exact List.Mem.tail _ (List.Mem.tail _ (List.Mem.tail _ (List.Mem.tail _ (List.Mem.tail _ (List.Mem.tail _ (List.Mem.head _)))))) | exact List.Mem.tail _ (List.Mem.tail _ (List.Mem.tail _ (List.Mem.tail _ (List.Mem.tail _ (List.Mem.tail _ (List.Mem.tail _ (List.Mem.head _))))))))) (by rfl)) ?_ | refine Pick.mk _ (pick_part (by (first | exact List.Mem.head _ | exact List.Mem.tail _ (List.Mem.head _) | exact List.Mem.tail _ (List.Mem.tail _ (List.Mem.head _)) | exact List.Mem.tail _ (List.Mem.tail _ (List.Mem.tail _ (List.Mem.head _))) | exact List.Mem.tail _ (List.Mem.tail _ (List.Mem.tail _ (List.Mem.tail _ (List.Mem.head _)))) | exact List.Mem.tail _ (List.Mem.tail _ (List.Mem.tail _ (List.Mem.tail _ (List.Mem.tail _ (List.Mem.head _))))) | exact List.Mem.tail _ (List.Mem.tail _ (List.Mem.tail _ (List.Mem.tail _ (List.Mem.tail _ (List.Mem.tail _ (List.Mem.head _)))))) | exact List.Mem.tail _ (List.Mem.tail _ (List.Mem.tail _ (List.Mem.tail _ (List.Mem.tail _ (List.Mem.tail _ (List.Mem.tail _ (List.Mem.head _))))))))) (by rfl)) ?_ | refine store_at (by (first | exact Upd.head _ | exact Upd.tail _ (Upd.head _) | exact Upd.tail _ (Upd.tail _ (Upd.head _)) | exact Upd.tail _ (Upd.tail _ (Upd.tail _ (Upd.head _))) | exact Upd.tail _ (Upd.tail _ (Upd.tail _ (Upd.tail _ (Upd.head _)))) | exact Upd.tail _ (Upd.tail _ (Upd.tail _ (Upd.tail _ (Upd.tail _ (Upd.head _))))) | exact Upd.tail _ (Upd.tail _ (Upd.tail _ (Upd.tail _ (Upd.tail _ (Upd.tail _ (Upd.head _)))))) | exact Upd.tail _ (Upd.tail _ (Upd.tail _ (Upd.tail _ (Upd.tail _ (Upd.tail _ (Upd.tail _ (Upd.head _))))))))) soft0 (by rfl) (by rfl) ?_ | refine Any.mk (fun _ => ?_))); all_goals (try (conv => whnf))
  all_goals refine Done.mk rfl
theorem pair_of {P : Prop} [Decidable P] (f : Value → Prop) {a b : Int} (h : f (if P then .tuple #[.int .i64 a, .int .i64 0] else .tuple #[.int .i64 0, .int .i64 1])) : f (.tuple #[.int .i64 (if P then a else 0), .int .i64 (if P then 0 else 1)]) := by
  by_cases hp : P
  · simpa [hp] using h
  · simpa [hp] using h
theorem bit_of (P : Prop) [Decidable P] : (0 : Int) ≤ (if P then 0 else 1) ∧ (if P then 0 else 1) ≤ (1 : Int) := by split <;> omega
theorem places_law {c : Cfg} (hc : c.In) (t r s : Int) (ht : I64 t) (hr : I64 r) (hs : I64 s) (w : World) : Val Try.prog 7 [c.v, .int .i64 t, .int .i64 r, .int .i64 s] w (.bool true) := by
  by_cases h : c.ok
  · have k1 : ∃ x y z e, (0 ≤ e ∧ e ≤ 1) ∧ ∀ w, Val Try.prog 20 [c.v, .int .i64 t] w (.tuple #[cellV x y z, .int .i64 e]) ∧ Val Try.prog 22 [c.v, .int .i64 t] w (.tuple #[cellV x y z, .int .i64 e]) := by
      by_cases hT : c.isTime t
      · refine ⟨t / (c.n * c.slot), t % (c.n * c.slot) / c.slot, t % (c.n * c.slot) % c.slot, 0, ⟨by omega, by omega⟩, fun w => ⟨?_, ?_⟩⟩
        · have := place_ok hc h t ht w; rw [if_pos hT] at this; exact this
        · have := rplace_ok hc h t ht w; rw [if_pos hT] at this; exact this
      · refine ⟨0, 0, 0, 1, ⟨by omega, by omega⟩, fun w => ⟨?_, ?_⟩⟩
        · have := place_ok hc h t ht w; rw [if_neg hT] at this; exact this
        · have := rplace_ok hc h t ht w; rw [if_neg hT] at this; exact this
    have k2 : ∃ a p q e, (0 ≤ e ∧ e ≤ 1) ∧ ∀ w, Val Try.prog 19 [c.v, .int .i64 r, .int .i64 s] w (.tuple #[.int .i64 a, .int .i64 e]) ∧ Val Try.prog 23 [c.v, .int .i64 r, .int .i64 s] w (.tuple #[.int .i64 a, .int .i64 e]) ∧ Val Try.prog 24 [c.v, .int .i64 r, .int .i64 s] w (.tuple #[.int .i64 p, .int .i64 q, .int .i64 e]) ∧ Val Try.prog 25 [c.v, .int .i64 r, .int .i64 s] w (.tuple #[.int .i64 p, .int .i64 q, .int .i64 e]) := by
      by_cases hA : c.isAt r s
      · refine ⟨c.at_ r s, c.at_ r s, c.at_ r s + c.slot - 1, 0, ⟨by omega, by omega⟩, fun w => ⟨?_, ?_, ?_, ?_⟩⟩
        · have := at_ok hc h r s hr hs w; rw [if_pos hA] at this; exact this
        · have := rat_ok hc h r s hr hs w; rw [if_pos hA] at this; exact this
        · have := speak_ok hc h r s hr hs w; rw [if_pos hA] at this; exact this
        · have := rspeak_ok hc h r s hr hs w; rw [if_pos hA] at this; exact this
      · refine ⟨0, 0, 0, 1, ⟨by omega, by omega⟩, fun w => ⟨?_, ?_, ?_, ?_⟩⟩
        · have := at_ok hc h r s hr hs w; rw [if_neg hA] at this; exact this
        · have := rat_ok hc h r s hr hs w; rw [if_neg hA] at this; exact this
        · have := speak_ok hc h r s hr hs w; rw [if_neg hA] at this; exact this
        · have := rspeak_ok hc h r s hr hs w; rw [if_neg hA] at this; exact this
    have k3 : ∃ m e, (0 ≤ e ∧ e ≤ 1) ∧ ∀ w, Val Try.prog 21 [c.v, .int .i64 s, .int .i64 t] w (.tuple #[.int .i64 m, .int .i64 e]) ∧ Val Try.prog 26 [c.v, .int .i64 s, .int .i64 t] w (.tuple #[.int .i64 m, .int .i64 e]) := by
      rcases Cfg.found h s t with he | ⟨m, he, -⟩
      · refine ⟨0, 1, ⟨by omega, by omega⟩, fun w => ⟨?_, ?_⟩⟩
        · have := next_ok hc h s t hs ht w; rw [he] at this; exact this
        · have := rnext_ok hc h s t hs ht w; rw [he] at this; exact this
      · refine ⟨m, 0, ⟨by omega, by omega⟩, fun w => ⟨?_, ?_⟩⟩
        · have := next_ok hc h s t hs ht w; rw [he] at this; exact this
        · have := rnext_ok hc h s t hs ht w; rw [he] at this; exact this
    obtain ⟨x, y, z, e1, b1, k1⟩ := k1
    obtain ⟨a, p, q, e2, b2, k2⟩ := k2
    obtain ⟨m, e4, b4, k3⟩ := k3
    exact places_core c t r s x y z a p q m e1 e2 e2 e4 b1 b2 b2 b4 (fun w => (k1 w).1) (fun w => (k1 w).2) (fun w => (k2 w).1) (fun w => (k2 w).2.1) (fun w => (k2 w).2.2.1) (fun w => (k2 w).2.2.2) (fun w => (k3 w).1) (fun w => (k3 w).2) w
  · exact places_core c t r s 0 0 0 0 0 0 0 1 1 1 1 (by omega) (by omega) (by omega) (by omega) (place_no hc h t) (rplace_no hc h t) (at_no hc h r s) (rat_no hc h r s) (speak_no hc h r s) (rspeak_no hc h r s) (next_no hc h s t) (rnext_no hc h s t) w
end Go.Proofs.Ytljihicdoneniaa
