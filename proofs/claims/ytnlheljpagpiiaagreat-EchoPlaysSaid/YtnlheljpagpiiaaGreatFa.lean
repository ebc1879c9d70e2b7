/-
  Frames: what may be one; program and document; every input.
-/
import Derived.Test.YtnlheljpagpiiaaGreatRc
set_option linter.unusedVariables false
set_option linter.unusedSimpArgs false
set_option maxRecDepth 100000
set_option maxHeartbeats 8000000
namespace Go.Proofs.YtnlheljpagpiiaaGreat
open Go
attribute [local irreducible] bitsOf shlOf shrOf
/-- A row of bytes, as it is handed about. -/
structure Sl where
  a : Option Addr
  l : List B8
  c : Nat
abbrev Sl.v (s : Sl) : Value := .slice s.a s.l.length s.c
structure Fr where
  kind : Int
  frm : Int
  to : Int
  epoch : Int
  start : Int
  round : Int
  nonce : BitVec 64
  stamp : Int
  view : Int
  index : Int
  key : Sl
  body : Sl
  tag : Sl
abbrev Fr.cs (f : Fr) : List Value := [.int .i64 f.kind, .int .i64 f.frm, .int .i64 f.to, .int .i64 f.epoch, .int .i64 f.start, .int .i64 f.round, w64 f.nonce, .int .i64 f.stamp, .int .i64 f.view, .int .i64 f.index, f.key.v, f.body.v, f.tag.v]
abbrev Fr.v (f : Fr) : Value := .agg f.cs.toArray
abbrev eF (b : Nat) (f : Fr) : Ent := ⟨b, f.cs, 25, (0, 0)⟩
abbrev Fr.fine (f : Fr) : Prop := (0 ≤ f.frm ∧ f.frm ≤ 7) ∧ f.tag.l.length = 8 ∧ (0 ≤ f.epoch ∧ f.epoch ≤ 65535) ∧ (0 ≤ f.index ∧ f.index ≤ 256) ∧ (0 ≤ f.round ∧ f.round ≤ 1048576) ∧ (0 ≤ f.start ∧ f.start ≤ 1048576) ∧ (0 ≤ f.view ∧ f.view ≤ 255) ∧ 0 ≤ f.stamp ∧ f.stamp ≤ 1099511627776 ∧ f.body.l.length ≤ 16
abbrev Fr.pair (f : Fr) : Prop := (0 ≤ f.to ∧ f.to ≤ 7) ∧ f.to ≠ f.frm
abbrev Fr.noKey (f : Fr) : Prop := f.epoch = 0 ∧ f.index = 0 ∧ f.key.l.length = 0
abbrev Fr.noData (f : Fr) : Prop := f.round = 0 ∧ f.view = 0 ∧ f.body.l.length = 0
abbrev Fr.noPair (f : Fr) : Prop := f.to = 0 ∧ (f.nonce.toNat : Int) = 0
abbrev Fr.noClock (f : Fr) : Prop := f.stamp = 0 ∧ f.start = 0
abbrev Fr.right (f : Fr) : Prop := (f.kind = 1 ∧ f.noPair ∧ f.noClock ∧ f.key.l.length = 16) ∨ (f.kind = 2 ∧ f.noKey ∧ f.noClock ∧ f.pair ∧ f.noData) ∨ (f.kind = 3 ∧ f.pair ∧ f.noData ∧ f.key.l.length = 16)
def Fr.ok (f : Fr) : Prop := f.fine ∧ f.right
instance (f : Fr) : Decidable f.ok := by unfold Fr.ok; infer_instance
theorem rwithin_v (x m : Int) (w : World) : Val Tryz.prog 103 [.int .i64 x, .int .i64 m] w (if 0 ≤ x ∧ x ≤ m then .bool true else .bool false) := by
  refine val_vc tab_ok Tryz.func103 rfl rfl ?_
  repeat' ((try (conv => whnf)); (first | refine Need.au ?_ | (refine Split.mk (fun hsplit => ?_) (fun hsplit => ?_) <;> (try simp only [List.cons.injEq, and_true, true_and, not_true_eq_false, not_false_eq_true] at hsplit) <;> try (exfalso; omega)) | refine Pick.au ?_ | refine store_au ?_ | refine Any.mk (fun _ => ?_) | refine Both.mk ?_ ?_)); all_goals (try (conv => whnf))
  all_goals first | exact Done.mk (if_pos (by omega)).symm | exact Done.mk (if_neg (by omega)).symm
theorem fnode_v (x : Int) (w : World) : Val Tryz.prog 124 [.int .i64 x] w (if 0 ≤ x ∧ x ≤ 7 then .bool true else .bool false) := by
  refine val_vc tab_ok Tryz.func124 rfl rfl ?_
  repeat' ((try (conv => whnf)); (first | refine Need.au ?_ | (refine Split.mk (fun hsplit => ?_) (fun hsplit => ?_) <;> (try simp only [List.cons.injEq, and_true, true_and, not_true_eq_false, not_false_eq_true] at hsplit) <;> try (exfalso; omega)) | refine Pick.au ?_ | refine store_au ?_ | refine Any.mk (fun _ => ?_) | refine Both.mk ?_ ?_)); all_goals (try (conv => whnf))
  all_goals first | exact Done.mk (if_pos (by omega)).symm | exact Done.mk (if_neg (by omega)).symm
theorem noPair_v (f : Fr) (w : World) : Val Tryz.prog 125 [f.v] w (if f.noPair then .bool true else .bool false) := by
  refine val_vc tab_ok Tryz.func125 rfl rfl ?_
  repeat' ((try (conv => whnf)); (first | refine Need.au ?_ | (refine Split.mk (fun hsplit => ?_) (fun hsplit => ?_) <;> (try simp only [List.cons.injEq, and_true, true_and, not_true_eq_false, not_false_eq_true] at hsplit) <;> try (exfalso; omega)) | refine Pick.au ?_ | refine store_au ?_ | refine Any.mk (fun _ => ?_) | refine Both.mk ?_ ?_)); all_goals (try (conv => whnf))
  all_goals first | exact Done.mk (if_pos (by omega)).symm | exact Done.mk (if_neg (by omega)).symm
theorem noClock_v (f : Fr) (w : World) : Val Tryz.prog 126 [f.v] w (if f.noClock then .bool true else .bool false) := by
  refine val_vc tab_ok Tryz.func126 rfl rfl ?_
  repeat' ((try (conv => whnf)); (first | refine Need.au ?_ | (refine Split.mk (fun hsplit => ?_) (fun hsplit => ?_) <;> (try simp only [List.cons.injEq, and_true, true_and, not_true_eq_false, not_false_eq_true] at hsplit) <;> try (exfalso; omega)) | refine Pick.au ?_ | refine store_au ?_ | refine Any.mk (fun _ => ?_) | refine Both.mk ?_ ?_)); all_goals (try (conv => whnf))
  all_goals first | exact Done.mk (if_pos (by omega)).symm | exact Done.mk (if_neg (by omega)).symm
theorem noKey_v (f : Fr) (w : World) : Val Tryz.prog 127 [f.v] w (if f.noKey then .bool true else .bool false) := by
  refine val_vc tab_ok Tryz.func127 rfl rfl ?_
  repeat' ((try (conv => whnf)); (first | refine Need.au ?_ | (refine Split.mk (fun hsplit => ?_) (fun hsplit => ?_) <;> (try simp only [List.cons.injEq, and_true, true_and, not_true_eq_false, not_false_eq_true] at hsplit) <;> try (exfalso; omega)) | refine Pick.au ?_ | refine store_au ?_ | refine Any.mk (fun _ => ?_) | refine Both.mk ?_ ?_)); all_goals (try (conv => whnf))
  all_goals first | exact Done.mk (if_pos (by omega)).symm | exact Done.mk (if_neg (by omega)).symm
theorem noData_v (f : Fr) (w : World) : Val Tryz.prog 128 [f.v] w (if f.noData then .bool true else .bool false) := by
  refine val_vc tab_ok Tryz.func128 rfl rfl ?_
  repeat' ((try (conv => whnf)); (first | refine Need.au ?_ | (refine Split.mk (fun hsplit => ?_) (fun hsplit => ?_) <;> (try simp only [List.cons.injEq, and_true, true_and, not_true_eq_false, not_false_eq_true] at hsplit) <;> try (exfalso; omega)) | refine Pick.au ?_ | refine store_au ?_ | refine Any.mk (fun _ => ?_) | refine Both.mk ?_ ?_)); all_goals (try (conv => whnf))
  all_goals first | exact Done.mk (if_pos (by omega)).symm | exact Done.mk (if_neg (by omega)).symm
theorem fright_v (f : Fr) (w : World) : Val Tryz.prog 87 [f.v] w (if f.right then .bool true else .bool false) := by
  refine val_vc tab_ok Tryz.func87 rfl rfl ?_
  repeat' ((try (conv => whnf)); (first | refine CallVC.ite (fun w2 h2 => fnode_v f.to w2) (fun hsplit => ?_) (fun hsplit => ?_) | refine CallVC.ite (fun w2 h2 => noPair_v f w2) (fun hsplit => ?_) (fun hsplit => ?_) | refine CallVC.ite (fun w2 h2 => noClock_v f w2) (fun hsplit => ?_) (fun hsplit => ?_) | refine CallVC.ite (fun w2 h2 => noKey_v f w2) (fun hsplit => ?_) (fun hsplit => ?_) | refine CallVC.ite (fun w2 h2 => noData_v f w2) (fun hsplit => ?_) (fun hsplit => ?_) | refine Need.au ?_ | (refine Split.mk (fun hsplit => ?_) (fun hsplit => ?_) <;> (try simp only [List.cons.injEq, and_true, true_and, not_true_eq_false, not_false_eq_true] at hsplit) <;> try (exfalso; omega)) | refine Pick.au ?_ | refine store_au ?_ | refine Any.mk (fun _ => ?_) | refine Both.mk ?_ ?_)); all_goals (try (conv => whnf))
  all_goals first | exact Done.mk (if_pos (by omega)).symm | exact Done.mk (if_neg (by omega)).symm
/-- Pairs of numbers, one behind the other. -/
def flat : List (Int × Int) → List Value
  | [] => []
  | p :: r => .int .i64 p.1 :: .int .i64 p.2 :: flat r
theorem flat_at : ∀ (ps : List (Int × Int)) (i : Nat), i < ps.length → (flat ps)[2 * i]? = some (.int .i64 (ps.getD i (0, 0)).1) ∧ (flat ps)[2 * i + 1]? = some (.int .i64 (ps.getD i (0, 0)).2)
  | [], i, h => absurd h (Nat.not_lt_zero i)
  | p :: r, 0, _ => ⟨rfl, rfl⟩
  | p :: r, i + 1, h => by
    have := flat_at r i (by simpa using h)
    exact this
theorem cells_flat {G : Cx} {hs : Hp} {b i : Nat} {ps : List (Int × Int)} (h : At G.w0 (some ⟨b, 0, none⟩) (flat ps)) (hd : b ∉ G.fp) (hi : i < ps.length) : [Value.int .i64 (ps.getD i (0, 0)).1, .int .i64 (ps.getD i (0, 0)).2].length = 2 ∧ G.cellsAre hs (Addr.add ⟨b, 0, none⟩ (i * 2)) [.int .i64 (ps.getD i (0, 0)).1, .int .i64 (ps.getD i (0, 0)).2] := by
  refine ⟨rfl, fun j v hv => ?_⟩
  obtain ⟨h1, h2⟩ := flat_at ps i hi
  rw [add_plain, add_plain, Nat.zero_add]
  match j, hv with
  | 0, hv => cases hv; rw [Nat.mul_comm] at h1; exact cell_known h hd h1
  | 1, hv => cases hv; rw [Nat.mul_comm] at h2; exact cell_known h hd h2
theorem fwithin_v (b : Nat) (ps : List (Int × Int)) (hn : ps.length ≤ 1000) (n : Nat) (hl : ps.length = n) (c : Nat) (w : World) (hA : At w (some ⟨b, 0, none⟩) (flat ps)) : Val Tryz.prog 123 [.slice (some ⟨b, 0, none⟩) n c] w (if ∀ p ∈ ps, 0 ≤ p.1 ∧ p.1 ≤ p.2 then .bool true else .bool false) := by
  refine val_vc tab_ok Tryz.func123 rfl rfl ?_
  subst hl
  repeat' ((try (conv => whnf)); (first | refine Need.au ?_ | (refine Split.mk (fun hsplit => ?_) (fun hsplit => ?_) <;> (try simp only [List.cons.injEq, and_true, true_and, not_true_eq_false, not_false_eq_true] at hsplit) <;> try (exfalso; omega)) | refine Pick.au ?_ | refine store_au ?_ | refine Any.mk (fun _ => ?_) | refine Both.mk ?_ ?_)); all_goals (try (conv => whnf))
  refine LoopVC.mk (fun m env hs => ∃ (i : Nat) (xi : Int), xi = i ∧ i + m = ps.length ∧ (∀ p ∈ ps.take i, 0 ≤ p.1 ∧ p.1 ≤ p.2) ∧ env = [(5, .slice (some ⟨b, 0, none⟩) ps.length c), (6, .int .i64 ps.length), (7, .int .i64 xi)] ∧ hs = []) ps.length
    (Weak.mk (Sub.cons rfl (Sub.cons rfl (Sub.cons rfl Sub.nil))) (List.Sublist.refl _) ⟨0, 0, by omega, by omega, by simp, rfl, rfl⟩) ?_
  rintro m env hs ⟨i, xi, hxi, hj, hall, rfl, rfl⟩
  by_cases hi : i < ps.length
  · have hxn : xi.toNat = i := by omega
    have hmem : ps.getD i (0, 0) ∈ ps := by rw [List.getD_eq_getElem?_getD, List.getElem?_eq_getElem hi]; exact List.getElem_mem hi
    have htk : ps.take (i + 1) = ps.take i ++ [ps.getD i (0, 0)] := by rw [List.take_succ_eq_append_getElem hi, List.getD_eq_getElem?_getD, List.getElem?_eq_getElem hi]; rfl
    have hcells := @cells_flat
    generalize hp : ps.getD i (0, 0) = p at *
    repeat' ((try (conv => whnf)); (first | (rw [hxn]; refine Pick.mk _ (hp ▸ cells_flat hA (by simp) hi) ?_) | refine Need.au ?_ | (refine Split.mk (fun hsplit => ?_) (fun hsplit => ?_) <;> (try simp only [List.cons.injEq, and_true, true_and, not_true_eq_false, not_false_eq_true] at hsplit) <;> try (exfalso; omega)) | refine Pick.au ?_ | refine store_au ?_ | refine Any.mk (fun _ => ?_) | refine Both.mk ?_ ?_)); all_goals (try (conv => whnf))
    all_goals first
      | exact Done.mk (if_neg (fun h => by have := h _ hmem; omega)).symm
      | exact again (m - 1) (by omega) (Sub.cons rfl (Sub.cons rfl (Sub.cons rfl Sub.nil))) (List.nil_sublist _) ⟨i + 1, xi + 1, by omega, by omega, by
          rw [htk]
          intro q hq
          rcases List.mem_append.1 hq with hq | hq
          · exact hall q hq
          · rw [List.mem_singleton.1 hq]; omega, rfl, rfl⟩
  · obtain rfl : i = ps.length := by omega
    rw [List.take_length] at hall
    repeat' ((try (conv => whnf)); (first | refine Need.au ?_ | (refine Split.mk (fun hsplit => ?_) (fun hsplit => ?_) <;> (try simp only [List.cons.injEq, and_true, true_and, not_true_eq_false, not_false_eq_true] at hsplit) <;> try (exfalso; omega)) | refine Pick.au ?_ | refine store_au ?_ | refine Any.mk (fun _ => ?_) | refine Both.mk ?_ ?_)); all_goals (try (conv => whnf))
    exact Done.mk (if_pos hall).symm
end Go.Proofs.YtnlheljpagpiiaaGreat
