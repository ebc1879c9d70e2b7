/-
  Sched: the law SchedBack returns true; every input.
-/
import Derived.Test.YtljihicdoneniaaE
set_option linter.unusedVariables false
set_option linter.unusedSimpArgs false
set_option maxRecDepth 100000
set_option maxHeartbeats 4000000
namespace Go.Proofs.Ytljihicdoneniaa
open Go

/-- The time where a slot begins has that slot's cell. -/
theorem Cfg.begins {c : Cfg} (h : c.ok) (r s : Int) (ha : c.isAt r s) : c.at_ r s / (c.n * c.slot) = r ∧ c.at_ r s % (c.n * c.slot) = s * c.slot ∧ s * c.slot / c.slot = s ∧ s * c.slot % c.slot = 0 ∧ c.isTime (c.at_ r s) := by
  obtain ⟨n1, n2, slot1, slot2, delay1, delay2, win1, win2, d1, d2, r1, r2, m1, m2, q1, q2⟩ := Cfg.fit h
  obtain ⟨s1, s2⟩ := Cfg.slots h r s
  obtain ⟨a1, a2, a3, a4, a5⟩ := ha
  obtain ⟨b1, b2⟩ := s2 a3 a4
  obtain ⟨b3, b4⟩ := s1 a1 a2
  have e1 : c.at_ r s / (c.n * c.slot) = r := by
    unfold Cfg.at_
    rw [Int.add_comm, Int.add_mul_ediv_right _ _ (show c.n * c.slot ≠ 0 by omega), Int.ediv_eq_zero_of_lt b1 (by omega), Int.zero_add]
  have e2 : c.at_ r s % (c.n * c.slot) = s * c.slot := by
    unfold Cfg.at_
    rw [Int.add_comm, Int.add_mul_emod_self_right, Int.emod_eq_of_lt b1 (by omega)]
  refine ⟨e1, e2, Int.mul_ediv_cancel _ (by omega), Int.mul_emod_left _ _, ?_, ?_, ?_⟩
  · unfold Cfg.at_; omega
  · unfold Cfg.at_; omega
  · omega
/-- A time is its slot's beginning and what is over of it. -/
theorem Cfg.whole {c : Cfg} (h : c.ok) (t : Int) (ht : c.isTime t) : c.isAt (t / (c.n * c.slot)) (t % (c.n * c.slot) / c.slot) ∧ c.at_ (t / (c.n * c.slot)) (t % (c.n * c.slot) / c.slot) + t % (c.n * c.slot) % c.slot = t ∧ 0 ≤ t % (c.n * c.slot) % c.slot ∧ t % (c.n * c.slot) % c.slot < c.slot := by
  obtain ⟨n1, n2, slot1, slot2, delay1, delay2, win1, win2, d1, d2, r1, r2, m1, m2, q1, q2⟩ := Cfg.fit h
  obtain ⟨t1, t2, t3, t4⟩ := Cfg.times h t
  obtain ⟨a1, a2, a3⟩ := ht
  have e1 := Int.emod_nonneg (t % (c.n * c.slot)) (show c.slot ≠ 0 by omega)
  have e2 := Int.emod_lt_of_pos (t % (c.n * c.slot)) (show 0 < c.slot by omega)
  have e3 := Int.emod_add_mul_ediv (t % (c.n * c.slot)) c.slot
  rw [Int.mul_comm c.slot] at e3
  have e4 : 0 ≤ t % (c.n * c.slot) / c.slot := Int.ediv_nonneg t2 (by omega)
  have e5 : t % (c.n * c.slot) / c.slot < c.n := Int.ediv_lt_of_lt_mul (by omega) (by omega)
  refine ⟨⟨(t4 a1).1, a3, e4, by omega, by omega⟩, ?_, e1, e2⟩
  unfold Cfg.at_; omega
theorem back_law {c : Cfg} (hc : c.In) (t r s : Int) (ht : I64 t) (hr : I64 r) (hs : I64 s) (w : World) : Val Try.prog 5 [c.v, .int .i64 t, .int .i64 r, .int .i64 s] w (.bool true) := by
  by_cases h : c.ok
  · obtain ⟨n1, n2, slot1, slot2, delay1, delay2, win1, win2, d1, d2, r1, r2, m1, m2, -, -⟩ := Cfg.fit h
    obtain ⟨t1, t2⟩ := ht
    have ht : I64 t := ⟨t1, t2⟩
    obtain ⟨A, hA⟩ : ∃ A, A = c.at_ r s := ⟨_, rfl⟩
    obtain ⟨Q, hQ⟩ : ∃ Q, Q = t / (c.n * c.slot) := ⟨_, rfl⟩
    obtain ⟨S, hS⟩ : ∃ S, S = t % (c.n * c.slot) / c.slot := ⟨_, rfl⟩
    obtain ⟨O, hO⟩ : ∃ O, O = t % (c.n * c.slot) % c.slot := ⟨_, rfl⟩
    obtain ⟨B, hB⟩ : ∃ B, B = c.at_ Q S := ⟨_, rfl⟩
    have c1 : ∀ w, Val Try.prog 19 [c.v, .int .i64 r, .int .i64 s] w (if c.isAt r s then .tuple #[.int .i64 A, .int .i64 0] else .tuple #[.int .i64 0, .int .i64 1]) := fun w => by rw [hA]; exact at_ok hc h r s hr hs w
    have c2 : ∀ w, Val Try.prog 20 [c.v, .int .i64 t] w (if c.isTime t then .tuple #[cellV Q S O, .int .i64 0] else .tuple #[cellV 0 0 0, .int .i64 1]) := fun w => by rw [hQ, hS, hO]; exact place_ok hc h t ht w
    have fst : c.isAt r s → (0 ≤ r ∧ r ≤ 1048575 ∧ 0 ≤ s ∧ s ≤ 7) ∧ ∀ w, Val Try.prog 20 [c.v, .int .i64 A] w (.tuple #[cellV r s 0, .int .i64 0]) := by
      intro ha
      obtain ⟨b1, b2, b3, b4, b5⟩ := Cfg.begins h r s ha
      obtain ⟨a1, a2, a3, a4, a5⟩ := ha
      obtain ⟨x1, x2, x3⟩ := b5
      have hI : I64 (c.at_ r s) := ⟨by omega, by omega⟩
      refine ⟨⟨a1, a2, a3, by omega⟩, fun w => ?_⟩
      have := place_ok hc h (c.at_ r s) hI w
      rw [if_pos ⟨x1, x2, x3⟩, b2, b1, b3, b4] at this
      rw [hA]
      exact this
    have snd : c.isTime t → (∀ w, Val Try.prog 19 [c.v, .int .i64 Q, .int .i64 S] w (.tuple #[.int .i64 B, .int .i64 0])) ∧ (B + O = t ∧ 0 ≤ O ∧ O < c.slot ∧ 0 ≤ S ∧ S < c.n) := by
      intro hi
      obtain ⟨b1, b2, b3, b4⟩ := Cfg.whole h t hi
      rw [← hQ, ← hS, ← hO, ← hB] at b2
      rw [← hO] at b3 b4
      rw [← hQ, ← hS] at b1
      obtain ⟨a1, a2, a3, a4, a5⟩ := b1
      refine ⟨fun w => ?_, b2, b3, b4, a3, by omega⟩
      have := at_ok hc h Q S (show I64 Q from ⟨by omega, by omega⟩) (show I64 S from ⟨by omega, by omega⟩) w
      rw [if_pos ⟨a1, a2, a3, a4, a5⟩] at this
      rw [hB]
      exact this
    clear hA hQ hS hO hB
    refine val_vc tab_ok Try.func5 rfl rfl ?_
    repeat' ((try (conv => whnf)); (first | refine CallVC.ite (fun w _ => c1 w) (fun ha => (fst ha).elim fun f1 f3 => ?_) (fun ha => ?_) | refine CallVC.ite (fun w _ => c2 w) (fun hi => (snd hi).elim fun g1 g2 => ?_) (fun hi => ?_) | refine CallVC.val (fun w _ => f3 w) ?_ | refine CallVC.val (fun w _ => g1 w) ?_ | refine CallVC.val (fun w _ => awake_v w) ?_ | refine Need.mk (by omega) ?_ | refine Need.mk (by kernel_rfl) ?_ | refine Need.mk ⟨rfl, Nat.le_of_ble_eq_true rfl⟩ ?_ | (refine Split.mk (fun hsplit => ?_) (fun hsplit => ?_) <;> (try simp only [List.cons.injEq, and_true, true_and, not_true_eq_false, not_false_eq_true] at hsplit) <;> try (exfalso; omega)) | refine Pick.mk _ (fit_i64 (by omega) (by omega)) ?_ | refine Pick.mk _ (fit_u64 (by omega) (by omega)) ?_ | refine Pick.mk _ (fit_u32 (by omega) (by omega)) ?_ | refine Pick.mk _ (fit_u8 (by omega) (by omega)) ?_ | refine Pick.mk _ (quo_i64 (by omega) (by omega) (by omega)) ?_ | refine Pick.mk _ (rem_pos (by omega)) ?_ | refine Pick.mk _ (cellIs_at (by (first | exact List.Mem.head _ | exact List.Mem.tail _ (List.Mem.head _) | exact List.Mem.tail _ (List.Mem.tail _ (List.Mem.head _)) | exact List.Mem.tail _ (List.Mem.tail _ (List.Mem.tail _ (List.Mem.head _))) | exact List.Mem.tail _ (List.Mem.tail _ (List.Mem.tail _ (List.Mem.tail _ (List.Mem.head _)))) | exact List.Mem.tail _ (List.Mem.tail _ (List.Mem.tail _ (List.Mem.tail _ (List.Mem.tail _ (List.Mem.head _))))) | exact List.Mem.tail _ (List.Mem.tail _ (List.Mem.tail _ (List.Mem.tail _ (List.Mem.tail _ (List.Mem.tail _ (List.Mem.head _)))))) | exact List.Mem.tail _ (List.Mem.tail _ (List.Mem.tail _ (List.Mem.tail _ (List.Mem.tail _ (List.Mem.tail _ (List.Mem.tail _ (List.Mem.head _))))))))) rfl) ?_ | refine Pick.mk _ (cellIs_old (by assumption) (by simp)) ?_ | refine Pick.mk _ (pick_whole (by (first | exact List.Mem.head _ | exact List.Mem.tail _ (List.Mem.head _) | exact List.Mem.tail _ (List.Mem.tail _ (List.Mem.head _)) | exact List.Mem.tail _ (List.Mem.tail _ (List.Mem.tail _ (List.Mem.head _))) | exact List.Mem.tail _ (List.Mem.tail _ (List.Mem.tail _ (List.Mem.tail _ (List.Mem.head _)))) | exact List.Mem.tail _ (List.Mem.tail _ (List.Mem.tail _ (List.Mem.tail _ (List.Mem.tail _ (List.Mem.head _))))) | exact List.Mem.tail _ (List.Mem.tail _ (List.Mem.tail _ (List.Mem.tail _ (List.Mem.tail _ (List.Mem.tail _ (List.Mem.head _)))))) | exact List.Mem.tail _ (List.Mem.tail _ (List.Mem.tail _ (List.Mem.tail _ (List.Mem.tail _ (List.Mem.tail _ (List.Mem.tail _ (List.Mem.head _))))))))) (by rfl)) ?_ | refine Pick.mk _ (pick_part (by (first | exact List.Mem.head _ | exact List.Mem.tail _ (List.Mem.head _) | exact List.Mem.tail _ (List.Mem.tail _ (List.Mem.head _)) | exact List.Mem.tail _ (List.Mem.tail _ (List.Mem.tail _ (List.Mem.head _))) | exact List.Mem.tail _ (List.Mem.tail _ (List.Mem.tail _ (List.Mem.tail _ (List.Mem.head _)))) | exact List.Mem.tail _ (List.Mem.tail _ (List.Mem.tail _ (List.Mem.tail _ (List.Mem.tail _ (List.Mem.head _))))) | exact List.Mem.tail _ (List.Mem.tail _ (List.Mem.tail _ (List.Mem.tail _ (List.Mem.tail _ (List.Mem.tail _ (List.Mem.head _)))))) | exact List.Mem.tail _ (List.Mem.tail _ (List.Mem.tail _ (List.Mem.tail _ (List.Mem.tail _ (List.Mem.tail _ (List.Mem.tail _ (List.Mem.head _))))))))) (by rfl)) ?_ | refine store_at (by (first | exact Upd.head _ | exact Upd.tail _ (Upd.head _) | exact Upd.tail _ (Upd.tail _ (Upd.head _)) | exact Upd.tail _ (Upd.tail _ (Upd.tail _ (Upd.head _))) | exact Upd.tail _ (Upd.tail _ (Upd.tail _ (Upd.tail _ (Upd.head _)))) | exact Upd.tail _ (Upd.tail _ (Upd.tail _ (Upd.tail _ (Upd.tail _ (Upd.head _))))) | exact Upd.tail _ (Upd.tail _ (Upd.tail _ (Upd.tail _ (Upd.tail _ (Upd.tail _ (Upd.head _)))))) | exact Upd.tail _ (Upd.tail _ (Upd.tail _ (Upd.tail _ (Upd.tail _ (Upd.tail _ (Upd.tail _ (Upd.head _))))))))) soft0 (by rfl) (by rfl) ?_ | refine Any.mk (fun _ => ?_))); all_goals (try (conv => whnf))
    all_goals refine Done.mk rfl
  · refine val_vc tab_ok Try.func5 rfl rfl ?_
    repeat' ((try (conv => whnf)); (first | refine CallVC.val (fun w _ => at_no hc h r s w) ?_ | refine CallVC.val (fun w _ => place_no hc h t w) ?_ | refine CallVC.val (fun w _ => awake_v w) ?_ | refine Need.mk (by omega) ?_ | refine Need.mk (by kernel_rfl) ?_ | refine Need.mk ⟨rfl, Nat.le_of_ble_eq_true rfl⟩ ?_ | (refine Split.mk (fun hsplit => ?_) (fun hsplit => ?_) <;> (try simp only [List.cons.injEq, and_true, true_and, not_true_eq_false, not_false_eq_true] at hsplit) <;> try (exfalso; omega)) | refine Pick.mk _ (fit_i64 (by omega) (by omega)) ?_ | refine Pick.mk _ (fit_u64 (by omega) (by omega)) ?_ | refine Pick.mk _ (fit_u32 (by omega) (by omega)) ?_ | refine Pick.mk _ (fit_u8 (by omega) (by omega)) ?_ | refine Pick.mk _ (quo_i64 (by omega) (by omega) (by omega)) ?_ | refine Pick.mk _ (rem_pos (by omega)) ?_ | refine Pick.mk _ (cellIs_at (by (first | exact List.Mem.head _ | exact List.Mem.tail _ (List.Mem.head _) | exact List.Mem.tail _ (List.Mem.tail _ (List.Mem.head _)) | exact List.Mem.tail _ (List.Mem.tail _ (List.Mem.tail _ (List.Mem.head _))) | exact List.Mem.tail _ (List.Mem.tail _ (List.Mem.tail _ (List.Mem.tail _ (List.Mem.head _)))) | exact List.Mem.tail _ (List.Mem.tail _ (List.Mem.tail _ (List.Mem.tail _ (List.Mem.tail _ (List.Mem.head _))))) | exact List.Mem.tail _ (List.Mem.tail _ (List.Mem.tail _ (List.Mem.tail _ (List.Mem.tail _ (List.Mem.tail _ (List.Mem.head _)))))) | exact List.Mem.tail _ (List.Mem.tail _ (List.Mem.tail _ (List.Mem.tail _ (List.Mem.tail _ (List.Mem.tail _ (List.Mem.tail _ (List.Mem.head _))))))))) rfl) ?_ | refine Pick.mk _ (cellIs_old (by assumption) (by simp)) ?_ | refine Pick.mk _ (pick_whole (by (first | exact List.Mem.head _ | exact List.Mem.tail _ (List.Mem.head _) | exact List.Mem.tail _ (List.Mem.tail _ (List.Mem.head _)) | exact List.Mem.tail _ (List.Mem.tail _ (List.Mem.tail _ (List.Mem.head _))) | exact List.Mem.tail _ (List.Mem.tail _ (List.Mem.tail _ (List.Mem.tail _ (List.Mem.head _)))) | exact List.Mem.tail _ (List.Mem.tail _ (List.Mem.tail _ (List.Mem.tail _ (List.Mem.tail _ (List.Mem.head _))))) | exact List.Mem.tail _ (List.Mem.tail _ (List.Mem.tail _ (List.Mem.tail _ (List.Mem.tail _ (List.Mem.tail _ (List.Mem.head _)))))) | exact List.Mem.tail _ (List.Mem.tail _ (List.Mem.tail _ (List.Mem.tail _ (List.Mem.tail _ (List.Mem.tail _ (List.Mem.tail _ (List.Mem.head _))))))))) (by rfl)) ?_ | refine Pick.mk _ (pick_part (by (first | exact List.Mem.head _ | exact List.Mem.tail _ (List.Mem.head _) | exact List.Mem.tail _ (List.Mem.tail _ (List.Mem.head _)) | exact List.Mem.tail _ (List.Mem.tail _ (List.Mem.tail _ (List.Mem.head _))) | exact List.Mem.tail _ (List.Mem.tail _ (List.Mem.tail _ (List.Mem.tail _ (List.Mem.head _)))) | exact List.Mem.tail _ (List.Mem.tail _ (List.Mem.tail _ (List.Mem.tail _ (List.Mem.tail _ (List.Mem.head _))))) | exact List.Mem.tail _ (List.Mem.tail _ (List.Mem.tail _ (List.Mem.tail _ (List.Mem.tail _ (List.Mem.tail _ (List.Mem.head _)))))) | exact List.Mem.tail _ (List.Mem.tail _ (List.Mem.tail _ (List.Mem.tail _ (List.Mem.tail _ (List.Mem.tail _ (List.Mem.tail _ (List.Mem.head _))))))))) (by rfl)) ?_ | refine store_at (by (first | exact Upd.head _ | exact Upd.tail _ (Upd.head _) | exact Upd.tail _ (Upd.tail _ (Upd.head _)) | exact Upd.tail _ (Upd.tail _ (Upd.tail _ (Upd.head _))) | exact Upd.tail _ (Upd.tail _ (Upd.tail _ (Upd.tail _ (Upd.head _)))) | exact Upd.tail _ (Upd.tail _ (Upd.tail _ (Upd.tail _ (Upd.tail _ (Upd.head _))))) | exact Upd.tail _ (Upd.tail _ (Upd.tail _ (Upd.tail _ (Upd.tail _ (Upd.tail _ (Upd.head _)))))) | exact Upd.tail _ (Upd.tail _ (Upd.tail _ (Upd.tail _ (Upd.tail _ (Upd.tail _ (Upd.tail _ (Upd.head _))))))))) soft0 (by rfl) (by rfl) ?_ | refine Any.mk (fun _ => ?_))); all_goals (try (conv => whnf))
    all_goals refine Done.mk rfl
end Go.Proofs.Ytljihicdoneniaa
