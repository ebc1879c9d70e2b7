/-
  What questions and answers lean on: may a config be; how much a clock may go on; program and document; every input. A node that asks, in the program: what it is; whom it may ask, with which key; every input. A node that asks, in the program: does a ping wait; none does; every input. A node that asks, in the program: made new; none waits; every input. A node that asks, in the program: a ping that is laid down, none that waits; every input.
-/
import Derived.Test.YtnlheljpagpiiaaGreatMn
import Derived.Test.YtnlheljpagpiiaaGreatMq
namespace Go.Proofs.YtnlheljpagpiiaaGreat
section
set_option linter.unusedVariables false
set_option linter.unusedSimpArgs false
set_option maxRecDepth 100000
set_option maxHeartbeats 8000000
open Go
def I64 (x : Int) : Prop := -9223372036854775808 ≤ x ∧ x ≤ 9223372036854775807
structure Cfg where
  n : Int
  f : Int
  slot : Int
  delay : Int
  keys : Int
  e : Int
  win : Int
  rho : Int
  slew : Int
  cap : Int
abbrev Cfg.cs (c : Cfg) : List Value := [.int .i64 c.n, .int .i64 c.f, .int .i64 c.slot, .int .i64 c.delay, .int .i64 c.keys, .int .i64 c.e, .int .i64 c.win, .int .i64 c.rho, .int .i64 c.slew, .int .i64 c.cap]
abbrev Cfg.v (c : Cfg) : Value := .agg c.cs.toArray
structure Cfg.In (c : Cfg) : Prop where
  n : I64 c.n
  f : I64 c.f
  slot : I64 c.slot
  delay : I64 c.delay
  keys : I64 c.keys
  e : I64 c.e
  win : I64 c.win
  rho : I64 c.rho
  slew : I64 c.slew
  cap : I64 c.cap
def Cfg.ok (c : Cfg) : Prop := 1 ≤ c.n ∧ c.n ≤ 8 ∧ 0 ≤ c.f ∧ c.f ≤ 8 ∧ 3 * c.f < c.n ∧ 300 ≤ c.slot ∧ c.slot ≤ 10000 ∧ 1 ≤ c.delay ∧ c.delay ≤ 4 ∧ c.delay + 4 ≤ c.keys ∧ c.keys ≤ 256 ∧ 1 ≤ c.e ∧ c.e ≤ 4 * c.slot ∧ 100 ≤ c.win ∧ c.win ≤ 4 * c.slot ∧ 0 ≤ c.rho ∧ c.rho ≤ 5 ∧ 0 ≤ c.slew ∧ c.slew ≤ 5 ∧ 1 ≤ c.cap ∧ c.cap ≤ 64
instance (c : Cfg) : Decidable c.ok := by unfold Cfg.ok; infer_instance
theorem swithin_v (x l m : Int) (w : World) : Val Tryz.prog 100 [.int .i64 x, .int .i64 l, .int .i64 m] w (if l ≤ x ∧ x ≤ m then .bool true else .bool false) := by
  refine val_vc tab_ok Tryz.func100 rfl rfl ?_
  repeat' ((try (conv => whnf)); (first | refine Need.au ?_ | (refine Split.mk (fun hsplit => ?_) (fun hsplit => ?_) <;> (try simp only [List.cons.injEq, and_true, true_and, not_true_eq_false, not_false_eq_true] at hsplit) <;> try (exfalso; omega)) | refine Pick.au ?_ | refine store_au ?_ | refine Any.mk (fun _ => ?_) | refine Both.mk ?_ ?_)); all_goals (try (conv => whnf))
  all_goals refine Done.mk ?_
  all_goals (first | (rw [if_pos ⟨by omega, by omega⟩]; rfl) | (rw [if_neg (by omega)]; rfl))
theorem sfrom_v (x l m : Int) (w : World) : Val Tryz.prog 101 [.int .i64 x, .int .i64 l, .int .i64 m] w (if l ≤ x ∧ x ≤ m then .bool true else .bool false) := by
  refine val_vc tab_ok Tryz.func101 rfl rfl ?_
  repeat' ((try (conv => whnf)); (first | refine Need.au ?_ | (refine Split.mk (fun hsplit => ?_) (fun hsplit => ?_) <;> (try simp only [List.cons.injEq, and_true, true_and, not_true_eq_false, not_false_eq_true] at hsplit) <;> try (exfalso; omega)) | refine Pick.au ?_ | refine store_au ?_ | refine Any.mk (fun _ => ?_) | refine Both.mk ?_ ?_)); all_goals (try (conv => whnf))
  all_goals refine Done.mk ?_
  all_goals (first | (rw [if_pos ⟨by omega, by omega⟩]; rfl) | (rw [if_neg (by omega)]; rfl))
theorem ccheck_v (c : Cfg) (hc : c.In) (w : World) : Val Tryz.prog 64 [c.v] w (if c.ok then .int .i64 0 else .int .i64 1) := by
  obtain ⟨⟨h1, g1⟩, ⟨h2, g2⟩, ⟨h3, g3⟩, ⟨h4, g4⟩, ⟨h5, g5⟩, ⟨h6, g6⟩, ⟨h7, g7⟩, ⟨h8, g8⟩, ⟨h9, g9⟩, ⟨h10, g10⟩⟩ := hc
  refine val_vc tab_ok Tryz.func64 rfl rfl ?_
  repeat' ((try (conv => whnf)); (first | (refine CallVC.ite (fun w _ => swithin_v _ _ _ w) (fun _ => ?_) (fun _ => ?_) <;> try (exfalso; omega)) | refine Need.au ?_ | (refine Split.mk (fun hsplit => ?_) (fun hsplit => ?_) <;> (try simp only [List.cons.injEq, and_true, true_and, not_true_eq_false, not_false_eq_true] at hsplit) <;> try (exfalso; omega)) | refine Pick.au ?_ | refine store_au ?_ | refine Any.mk (fun _ => ?_) | refine Both.mk ?_ ?_)); all_goals (try (conv => whnf))
  all_goals refine Done.mk ?_
  all_goals (first | (rw [if_pos (by unfold Cfg.ok; omega)]; rfl) | (rw [if_neg (by unfold Cfg.ok; omega)]; rfl))
theorem rccheck_v (c : Cfg) (hc : c.In) (w : World) : Val Tryz.prog 69 [c.v] w (if c.ok then .int .i64 0 else .int .i64 1) := by
  obtain ⟨⟨h1, g1⟩, ⟨h2, g2⟩, ⟨h3, g3⟩, ⟨h4, g4⟩, ⟨h5, g5⟩, ⟨h6, g6⟩, ⟨h7, g7⟩, ⟨h8, g8⟩, ⟨h9, g9⟩, ⟨h10, g10⟩⟩ := hc
  refine val_vc tab_ok Tryz.func69 rfl rfl ?_
  simp only [List.append]
  repeat' ((try (conv => whnf)); (first | (refine CallVC.ite (fun w _ => sfrom_v _ _ _ w) (fun _ => ?_) (fun _ => ?_) <;> try (exfalso; omega)) | (refine QuietVC.ite (fun w _ => sfrom_v _ _ _ w) (fun _ => ?_) (fun _ => ?_) <;> try (exfalso; omega)) | refine Need.au ?_ | (refine Split.mk (fun hsplit => ?_) (fun hsplit => ?_) <;> (try simp only [List.cons.injEq, and_true, true_and, not_true_eq_false, not_false_eq_true] at hsplit) <;> try (exfalso; omega)) | refine Pick.au ?_ | refine store_au ?_ | refine Any.mk (fun _ => ?_) | refine Both.mk ?_ ?_)); all_goals (try (conv => whnf))
  all_goals refine Done.mk ?_
  all_goals (first | (rw [if_pos (by unfold Cfg.ok; omega)]; rfl) | (rw [if_neg (by unfold Cfg.ok; omega)]; rfl))
abbrev mayP (a d : Int) : Prop := (0 ≤ d ∧ d ≤ 49) ∧ 0 ≤ a ∧ a ≤ 1099511627776
theorem rmay_v (a d : Int) (w : World) : Val Tryz.prog 65 [.int .i64 a, .int .i64 d] w (if mayP a d then .bool true else .bool false) := by
  refine val_vc tab_ok Tryz.func65 rfl rfl ?_
  repeat' ((try (conv => whnf)); (first | refine Need.au ?_ | (refine Split.mk (fun hsplit => ?_) (fun hsplit => ?_) <;> (try simp only [List.cons.injEq, and_true, true_and, not_true_eq_false, not_false_eq_true] at hsplit) <;> try (exfalso; omega)) | refine Pick.au ?_ | refine store_au ?_ | refine Any.mk (fun _ => ?_) | refine Both.mk ?_ ?_)); all_goals (try (conv => whnf))
  all_goals first | exact Done.mk (if_pos (by omega)).symm | exact Done.mk (if_neg (by omega)).symm
theorem r7may_v (a d : Int) (w : World) : Val Tryz.prog 104 [.int .i64 a, .int .i64 d] w (if mayP a d then .bool true else .bool false) := by
  refine val_vc tab_ok Tryz.func104 rfl rfl ?_
  repeat' ((try (conv => whnf)); (first | refine Need.au ?_ | (refine Split.mk (fun hsplit => ?_) (fun hsplit => ?_) <;> (try simp only [List.cons.injEq, and_true, true_and, not_true_eq_false, not_false_eq_true] at hsplit) <;> try (exfalso; omega)) | refine Pick.au ?_ | refine store_au ?_ | refine Any.mk (fun _ => ?_) | refine Both.mk ?_ ?_)); all_goals (try (conv => whnf))
  all_goals first | exact Done.mk (if_pos (by omega)).symm | exact Done.mk (if_neg (by omega)).symm
/-- The most that a clock may go on. -/
def mostX (a d : Int) : Int × Int := if mayP a d then (a * (100 + d) / (100 - d), 0) else (0, 1)
theorem most_fit {a d : Int} (h : mayP a d) : 0 ≤ a * (100 + d) ∧ a * (100 + d) ≤ 163827232538624 := by
  obtain ⟨⟨h1, h2⟩, h3, h4⟩ := h
  have e1 : 0 ≤ a * (100 + d) := Int.mul_nonneg h3 (by omega)
  have e2 : a * (100 + d) ≤ 1099511627776 * 149 := Int.mul_le_mul h4 (by omega) (by omega) (by omega)
  exact ⟨e1, by omega⟩
theorem rends_v (d : Int) (hd : 0 ≤ d ∧ d ≤ 49) (w : World) : Val Tryz.prog 66 [.int .i64 d] w (.tuple #[.int .i64 (100 - d), .int .i64 (100 + d)]) := by
  refine val_vc tab_ok Tryz.func66 rfl rfl ?_
  repeat' ((try (conv => whnf)); (first | refine Need.au ?_ | (refine Split.mk (fun hsplit => ?_) (fun hsplit => ?_) <;> (try simp only [List.cons.injEq, and_true, true_and, not_true_eq_false, not_false_eq_true] at hsplit) <;> try (exfalso; omega)) | refine Pick.au ?_ | refine store_au ?_ | refine Any.mk (fun _ => ?_) | refine Both.mk ?_ ?_)); all_goals (try (conv => whnf))
  exact Done.mk rfl
theorem rquot_v (p q : Int) (hp : 0 ≤ p ∧ p ≤ 9223372036854775807) (hq : 0 < q) (w : World) : Val Tryz.prog 67 [.int .i64 p, .int .i64 q, .int .i64 0] w (.int .i64 (p / q)) := by
  obtain ⟨h1, h2⟩ := hp
  refine val_vc tab_ok Tryz.func67 rfl rfl ?_
  repeat' ((try (conv => whnf)); (first | refine Need.au ?_ | (refine Split.mk (fun hsplit => ?_) (fun hsplit => ?_) <;> (try simp only [List.cons.injEq, and_true, true_and, not_true_eq_false, not_false_eq_true] at hsplit) <;> try (exfalso; omega)) | refine Pick.au ?_ | refine store_au ?_ | refine Any.mk (fun _ => ?_) | refine Both.mk ?_ ?_)); all_goals (try (conv => whnf))
  exact Done.mk rfl
theorem rmost_v (a d : Int) (w : World) : Val Tryz.prog 32 [.int .i64 a, .int .i64 d] w (.tuple #[.int .i64 (mostX a d).1, .int .i64 (mostX a d).2]) := by
  unfold mostX
  by_cases h : mayP a d
  · rw [if_pos h]
    obtain ⟨e1, e2⟩ := most_fit h
    refine val_vc tab_ok Tryz.func32 rfl rfl ?_
    repeat' ((try (conv => whnf)); (first | refine CallVC.ite (fun w2 h2 => rmay_v a d w2) (fun _ => ?_) (fun hn => absurd h hn) | refine CallVC.val (fun w2 h2 => rends_v d h.1 w2) ?_ | refine CallVC.val (fun w2 h2 => rquot_v (a * (100 + d)) (100 - d) ⟨e1, by omega⟩ (by omega) w2) ?_ | refine Need.au ?_ | (refine Split.mk (fun hsplit => ?_) (fun hsplit => ?_) <;> (try simp only [List.cons.injEq, and_true, true_and, not_true_eq_false, not_false_eq_true] at hsplit) <;> try (exfalso; omega)) | refine Pick.au ?_ | refine store_au ?_ | refine Any.mk (fun _ => ?_) | refine Both.mk ?_ ?_)); all_goals (try (conv => whnf))
    exact Done.mk rfl
  · rw [if_neg h]
    refine val_vc tab_ok Tryz.func32 rfl rfl ?_
    repeat' ((try (conv => whnf)); (first | refine CallVC.ite (fun w2 h2 => rmay_v a d w2) (fun hn => absurd hn h) (fun _ => ?_) | refine Need.au ?_ | (refine Split.mk (fun hsplit => ?_) (fun hsplit => ?_) <;> (try simp only [List.cons.injEq, and_true, true_and, not_true_eq_false, not_false_eq_true] at hsplit) <;> try (exfalso; omega)) | refine Pick.au ?_ | refine store_au ?_ | refine Any.mk (fun _ => ?_) | refine Both.mk ?_ ?_)); all_goals (try (conv => whnf))
    exact Done.mk rfl
theorem r7most_v (a d : Int) (w : World) : Val Tryz.prog 73 [.int .i64 a, .int .i64 d] w (.tuple #[.int .i64 (mostX a d).1, .int .i64 (mostX a d).2]) := by
  unfold mostX
  by_cases h : mayP a d
  · rw [if_pos h]
    obtain ⟨e1, e2⟩ := most_fit h
    refine val_vc tab_ok Tryz.func73 rfl rfl ?_
    repeat' ((try (conv => whnf)); (first | refine CallVC.ite (fun w2 h2 => r7may_v a d w2) (fun _ => ?_) (fun hn => absurd h hn) | refine Pick.mk _ (quo_i64 e1 (by omega) (by omega)) ?_ | refine Need.au ?_ | (refine Split.mk (fun hsplit => ?_) (fun hsplit => ?_) <;> (try simp only [List.cons.injEq, and_true, true_and, not_true_eq_false, not_false_eq_true] at hsplit) <;> try (exfalso; omega)) | refine Pick.au ?_ | refine store_au ?_ | refine Any.mk (fun _ => ?_) | refine Both.mk ?_ ?_)); all_goals (try (conv => whnf))
    exact Done.mk rfl
  · rw [if_neg h]
    refine val_vc tab_ok Tryz.func73 rfl rfl ?_
    repeat' ((try (conv => whnf)); (first | refine CallVC.ite (fun w2 h2 => r7may_v a d w2) (fun hn => absurd hn h) (fun _ => ?_) | refine Need.au ?_ | (refine Split.mk (fun hsplit => ?_) (fun hsplit => ?_) <;> (try simp only [List.cons.injEq, and_true, true_and, not_true_eq_false, not_false_eq_true] at hsplit) <;> try (exfalso; omega)) | refine Pick.au ?_ | refine store_au ?_ | refine Any.mk (fun _ => ?_) | refine Both.mk ?_ ?_)); all_goals (try (conv => whnf))
    exact Done.mk rfl
theorem iright_v (lo hi : Int) (w : World) : Val Tryz.prog 68 [.agg #[.int .i64 lo, .int .i64 hi]] w (if lo ≤ hi ∧ -1099511627776 ≤ lo ∧ hi ≤ 1099511627776 then .bool true else .bool false) := by
  refine val_vc tab_ok Tryz.func68 rfl rfl ?_
  repeat' ((try (conv => whnf)); (first | refine Need.au ?_ | (refine Split.mk (fun hsplit => ?_) (fun hsplit => ?_) <;> (try simp only [List.cons.injEq, and_true, true_and, not_true_eq_false, not_false_eq_true] at hsplit) <;> try (exfalso; omega)) | refine Pick.au ?_ | refine store_au ?_ | refine Any.mk (fun _ => ?_) | refine Both.mk ?_ ?_)); all_goals (try (conv => whnf))
  all_goals first | exact Done.mk (if_pos (by omega)).symm | exact Done.mk (if_neg (by omega)).symm
theorem iholds_v (lo hi n : Int) (w : World) : Val Tryz.prog 33 [.agg #[.int .i64 lo, .int .i64 hi], .int .i64 n] w (if (lo ≤ hi ∧ -1099511627776 ≤ lo ∧ hi ≤ 1099511627776) ∧ lo ≤ n ∧ n ≤ hi then .bool true else .bool false) := by
  refine val_vc tab_ok Tryz.func33 rfl rfl ?_
  repeat' ((try (conv => whnf)); (first | refine CallVC.ite (fun w2 h2 => iright_v lo hi w2) (fun hsplit => ?_) (fun hsplit => ?_) | refine Need.au ?_ | (refine Split.mk (fun hsplit => ?_) (fun hsplit => ?_) <;> (try simp only [List.cons.injEq, and_true, true_and, not_true_eq_false, not_false_eq_true] at hsplit) <;> try (exfalso; omega)) | refine Pick.au ?_ | refine store_au ?_ | refine Any.mk (fun _ => ?_) | refine Both.mk ?_ ?_)); all_goals (try (conv => whnf))
  all_goals first | exact Done.mk (if_pos (by omega)).symm | exact Done.mk (if_neg (by omega)).symm
theorem etime_v (t : Int) (w : World) : Val Tryz.prog 59 [.int .i64 t] w (if 0 ≤ t ∧ t ≤ 1099511627776 then .bool true else .bool false) := by
  refine val_vc tab_ok Tryz.func59 rfl rfl ?_
  repeat' ((try (conv => whnf)); (first | refine Need.au ?_ | (refine Split.mk (fun hsplit => ?_) (fun hsplit => ?_) <;> (try simp only [List.cons.injEq, and_true, true_and, not_true_eq_false, not_false_eq_true] at hsplit) <;> try (exfalso; omega)) | refine Pick.au ?_ | refine store_au ?_ | refine Any.mk (fun _ => ?_) | refine Both.mk ?_ ?_)); all_goals (try (conv => whnf))
  all_goals first | exact Done.mk (if_pos (by omega)).symm | exact Done.mk (if_neg (by omega)).symm
theorem retime_v (t : Int) (w : World) : Val Tryz.prog 70 [.int .i64 t] w (if 0 ≤ t ∧ t ≤ 1099511627776 then .bool true else .bool false) := by
  refine val_vc tab_ok Tryz.func70 rfl rfl ?_
  repeat' ((try (conv => whnf)); (first | refine Need.au ?_ | (refine Split.mk (fun hsplit => ?_) (fun hsplit => ?_) <;> (try simp only [List.cons.injEq, and_true, true_and, not_true_eq_false, not_false_eq_true] at hsplit) <;> try (exfalso; omega)) | refine Pick.au ?_ | refine store_au ?_ | refine Any.mk (fun _ => ?_) | refine Both.mk ?_ ?_)); all_goals (try (conv => whnf))
  all_goals first | exact Done.mk (if_pos (by omega)).symm | exact Done.mk (if_neg (by omega)).symm
end
section
set_option linter.unusedVariables false
set_option linter.unusedSimpArgs false
set_option maxRecDepth 100000
set_option maxHeartbeats 8000000
open Go
attribute [local irreducible] bitsOf shlOf shrOf
/-- Pings that wait, as cells. -/
def flatP : List (BitVec 64 × Int) → List Value
  | [] => []
  | p :: r => w64 p.1 :: .int .i64 p.2 :: flatP r
theorem flatP_at : ∀ (ps : List (BitVec 64 × Int)) (i : Nat), i < ps.length → (flatP ps)[2 * i]? = some (w64 (ps.getD i (0, 0)).1) ∧ (flatP ps)[2 * i + 1]? = some (.int .i64 (ps.getD i (0, 0)).2)
  | [], i, h => absurd h (Nat.not_lt_zero i)
  | p :: r, 0, _ => ⟨rfl, rfl⟩
  | p :: r, i + 1, h => by
    have := flatP_at r i (by simpa using h)
    exact this
theorem flatP_len : ∀ ps : List (BitVec 64 × Int), (flatP ps).length = 2 * ps.length
  | [] => rfl
  | p :: r => by simp only [flatP, List.length_cons, flatP_len r]; omega
/-- The node's block. -/
abbrev eCs (c : Cfg) (M : Sl) (i : Int) (first count : BitVec 64) (wait : List (BitVec 64 × Int)) : List Value := c.cs ++ [M.v, .int .i64 i, w64 first, w64 count] ++ flatP wait
abbrev eE (ep : Nat) (c : Cfg) (M : Sl) (i : Int) (first count : BitVec 64) (wait : List (BitVec 64 × Int)) : Ent := ⟨ep, eCs c M i first count wait, 48, (0, 0)⟩
/-- A row that is handed back by itself. -/
structure GivesY (xs : List B8) (v : Value) (hs : Hp) : Prop where wrap ::
  raw : ∃ (A : Option Addr) (c : Nat) (E : Hp), v = .slice A xs.length c ∧ xs.length ≤ c ∧ Own A xs c E ∧ E.Sublist hs
theorem CallVC.givesYt {G : Cx} {hs : Hp} {f : Nat} {args : List Value} {K : Value → Hp → Prop} {xs : List B8} (hc : ∀ w, St G hs w → Ret G.P f args w (GivesY xs))
    (hk : ∀ A c E, xs.length ≤ c → Own A xs c E → K (.slice A xs.length c) (hs ++ E)) : CallVC G hs f args K := by
  refine ⟨K, fun w hw => (hc w hw).calls.mono ?_, fun _ _ h => h⟩
  rintro e' w' ⟨v, hs2, rfl, ⟨A, c, E, rfl, hl, hO, hsub⟩, hst⟩
  exact ⟨_, hs ++ E, rfl, hk A c E hl hO, ((hw.trans hst).sub (hsub.append_right hs)).perm List.perm_append_comm⟩
section
variable (ep : Nat) (c : Cfg) (b0 : Addr) (m : List B8) (cm : Nat) (i : Int) (first count : BitVec 64) (wait : List (BitVec 64 × Int)) (w : World)
theorem enone_v (hP : At w (some ⟨ep, 0, none⟩) (eCs c ⟨some b0, m, cm⟩ i first count wait)) : Val Tryz.prog 57 [.pointer (some ⟨ep, 0, none⟩)] w (.bool false) := by
  refine val_vc tab_ok Tryz.func57 rfl rfl ?_
  repeat' ((try (conv => whnf)); (first | refine Pick.mk _ (cell_known hP (by simp) rfl) ?_ | refine Need.au ?_ | (refine Split.mk (fun hsplit => ?_) (fun hsplit => ?_) <;> (try simp only [List.cons.injEq, and_true, true_and, not_true_eq_false, not_false_eq_true] at hsplit) <;> try (exfalso; omega)) | refine Pick.au ?_ | refine store_au ?_ | refine Any.mk (fun _ => ?_) | refine Both.mk ?_ ?_)); all_goals (try (conv => whnf))
  all_goals exact Done.mk rfl
abbrev otherP (c : Cfg) (i j : Int) : Prop := (0 ≤ j ∧ j < c.n) ∧ j ≠ i
theorem eother_v (j : Int) (hP : At w (some ⟨ep, 0, none⟩) (eCs c ⟨some b0, m, cm⟩ i first count wait)) : Val Tryz.prog 58 [.pointer (some ⟨ep, 0, none⟩), .int .i64 j] w (if otherP c i j then .bool true else .bool false) := by
  refine val_vc tab_ok Tryz.func58 rfl rfl ?_
  repeat' ((try (conv => whnf)); (first | refine Pick.mk _ (cell_known hP (by simp) rfl) ?_ | refine Need.au ?_ | (refine Split.mk (fun hsplit => ?_) (fun hsplit => ?_) <;> (try simp only [List.cons.injEq, and_true, true_and, not_true_eq_false, not_false_eq_true] at hsplit) <;> try (exfalso; omega)) | refine Pick.au ?_ | refine store_au ?_ | refine Any.mk (fun _ => ?_) | refine Both.mk ?_ ?_)); all_goals (try (conv => whnf))
  all_goals first | exact Done.mk (if_pos (by omega)).symm | exact Done.mk (if_neg (by omega)).symm
theorem epair_r (j : Int) (hcm : m.length ≤ cm) (hP : At w (some ⟨ep, 0, none⟩) (eCs c ⟨some b0, m, cm⟩ i first count wait)) (hM : At w (some b0) (m.map b8)) : Ret Tryz.prog 60 [.pointer (some ⟨ep, 0, none⟩), .int .i64 j] w (GivesY (pairOf m i j).1) := by
  refine ret_vc tab_ok Tryz.func60 rfl rfl ?_
  repeat' ((try (conv => whnf)); (first | refine Pick.mk pm60_1 (by decide +kernel) ?_ | refine Pick.mk _ (cell_known hP (by simp) rfl) ?_ | (refine CallVC.givesXt (fun w2 h2 => pair_r (some b0) m cm i j hcm w2 (hM.here h2 (fun _ _ => by simp))) (fun A1 c1 E1 hl1 hO1 => ?_)) | refine Pick.mk pl60_1 (by decide +kernel) ?_ | refine Need.au ?_ | (refine Split.mk (fun hsplit => ?_) (fun hsplit => ?_) <;> (try simp only [List.cons.injEq, and_true, true_and, not_true_eq_false, not_false_eq_true] at hsplit) <;> try (exfalso; omega)) | refine Pick.au ?_ | refine store_au ?_ | refine Any.mk (fun _ => ?_) | refine Both.mk ?_ ?_)); all_goals (try (conv => whnf))
  exact Done.mk ⟨_, _, _, rfl, hl1, hO1, List.sublist_append_right _ _⟩
end
end
section
set_option linter.unusedVariables false
set_option linter.unusedSimpArgs false
set_option maxRecDepth 100000
set_option maxHeartbeats 8000000
open Go
attribute [local irreducible] bitsOf shlOf shrOf
theorem eCs_wait {c : Cfg} {M : Sl} {i : Int} {first count : BitVec 64} {wait : List (BitVec 64 × Int)} {j : Nat} (hj : j < wait.length) : (eCs c M i first count wait)[14 + 2 * j]? = some (w64 (wait.getD j (0, 0)).1) ∧ (eCs c M i first count wait)[14 + 2 * j + 1]? = some (.int .i64 (wait.getD j (0, 0)).2) := by
  obtain ⟨h1, h2⟩ := flatP_at wait j hj
  have hl : (c.cs ++ [M.v, .int .i64 i, w64 first, w64 count]).length = 14 := rfl
  constructor
  · rw [eCs, List.getElem?_append_right (by omega), hl, show 14 + 2 * j - 14 = 2 * j by omega]; exact h1
  · rw [eCs, List.getElem?_append_right (by omega), hl, show 14 + 2 * j + 1 - 14 = 2 * j + 1 by omega]; exact h2
theorem wait_known {G : Cx} {hs : Hp} {ep : Nat} {c : Cfg} {M : Sl} {i : Int} {first count : BitVec 64} {wait : List (BitVec 64 × Int)} {j : Nat} (h : At G.w0 (some ⟨ep, 0, none⟩) (eCs c M i first count wait)) (hd : ep ∉ G.fp) (hj : j < wait.length) :
    [w64 (wait.getD j (0, 0)).1, .int .i64 (wait.getD j (0, 0)).2].length = 2 ∧ G.cellsAre hs (Addr.add ⟨ep, 14, none⟩ (j * 2)) [w64 (wait.getD j (0, 0)).1, .int .i64 (wait.getD j (0, 0)).2] := by
  obtain ⟨h1, h2⟩ := eCs_wait (c := c) (M := M) (i := i) (first := first) (count := count) hj
  refine ⟨rfl, fun k v hv => ?_⟩
  rw [add_plain, add_plain]
  match k, hv with
  | 0, hv => cases hv; rw [show 14 + j * 2 + 0 = 14 + 2 * j by omega]; exact cell_known h hd h1
  | 1, hv => cases hv; rw [show 14 + j * 2 + 1 = 14 + 2 * j + 1 by omega]; exact cell_known h hd h2
section
variable (ep : Nat) (c : Cfg) (b0 : Addr) (m : List B8) (cm : Nat) (i : Int) (first count : BitVec 64) (wait : List (BitVec 64 × Int)) (w : World)
theorem easked_v (j : Int) (hcn : c.n ≤ 8) (hw8 : wait.length = 8) (hP : At w (some ⟨ep, 0, none⟩) (eCs c ⟨some b0, m, cm⟩ i first count wait)) : Val Tryz.prog 28 [.pointer (some ⟨ep, 0, none⟩), .int .i64 j] w (if otherP c i j ∧ wait.getD j.toNat (0, 0) ≠ (0, 0) then .bool true else .bool false) := by
  by_cases ho : otherP c i j
  · have hj : j.toNat < wait.length := by omega
    obtain ⟨p, hp⟩ : ∃ p, wait.getD j.toNat (0, 0) = p := ⟨_, rfl⟩
    have hk := fun (hs : Hp) => wait_known (G := ⟨Tryz.prog, w, []⟩) (hs := hs) hP (by simp) hj
    rw [hp] at hk ⊢
    obtain ⟨n, t⟩ := p
    have hz : ((n, t) : BitVec 64 × Int) = (0, 0) ↔ ((n.toNat : Int) = 0 ∧ t = 0) := by
      rw [Prod.mk.injEq]
      constructor
      · rintro ⟨rfl, rfl⟩; exact ⟨rfl, rfl⟩
      · rintro ⟨h1, h2⟩; exact ⟨BitVec.eq_of_toNat_eq (by show _ = 0; omega), h2⟩
    simp only [ne_eq, hz]
    refine val_vc tab_ok Tryz.func28 rfl rfl ?_
    repeat' ((try (conv => whnf)); (first | refine CallVC.val (fun w2 h2 => enone_v ep c b0 m cm i first count wait w2 (hP.here h2 (fun _ _ => by simp))) ?_ | refine CallVC.ite (fun w2 h2 => eother_v ep c b0 m cm i first count wait w2 j (hP.here h2 (fun _ _ => by simp))) (fun _ => ?_) (fun hn => absurd ho hn) | refine Pick.mk _ (hk _) ?_ | refine Need.au ?_ | (refine Split.mk (fun hsplit => ?_) (fun hsplit => ?_) <;> (try simp only [List.cons.injEq, and_true, true_and, not_true_eq_false, not_false_eq_true] at hsplit) <;> try (exfalso; omega)) | refine Pick.au ?_ | refine store_au ?_ | refine Any.mk (fun _ => ?_) | refine Both.mk ?_ ?_)); all_goals (try (conv => whnf))
    all_goals first | exact Done.mk (if_pos ⟨ho, by omega⟩).symm | exact Done.mk (if_neg (fun h => h.2 (by omega))).symm
  · rw [if_neg (fun h => ho h.1)]
    refine val_vc tab_ok Tryz.func28 rfl rfl ?_
    repeat' ((try (conv => whnf)); (first | refine CallVC.val (fun w2 h2 => enone_v ep c b0 m cm i first count wait w2 (hP.here h2 (fun _ _ => by simp))) ?_ | refine CallVC.ite (fun w2 h2 => eother_v ep c b0 m cm i first count wait w2 j (hP.here h2 (fun _ _ => by simp))) (fun hn => absurd hn ho) (fun _ => ?_) | refine Need.au ?_ | (refine Split.mk (fun hsplit => ?_) (fun hsplit => ?_) <;> (try simp only [List.cons.injEq, and_true, true_and, not_true_eq_false, not_false_eq_true] at hsplit) <;> try (exfalso; omega)) | refine Pick.au ?_ | refine store_au ?_ | refine Any.mk (fun _ => ?_) | refine Both.mk ?_ ?_)); all_goals (try (conv => whnf))
    exact Done.mk rfl
end
end
section
set_option linter.unusedVariables false
set_option linter.unusedSimpArgs false
set_option maxRecDepth 100000
set_option maxHeartbeats 8000000
open Go
attribute [local irreducible] bitsOf shlOf shrOf
abbrev newP (c : Cfg) (m : List B8) (i inc : Int) : Prop := c.ok ∧ (0 ≤ i ∧ i < c.n) ∧ (0 ≤ inc ∧ inc ≤ 65535) ∧ m.length = 16
def wait0 : List (BitVec 64 × Int) := [(0, 0), (0, 0), (0, 0), (0, 0), (0, 0), (0, 0), (0, 0), (0, 0)]
def firstOf (inc : Int) : BitVec 64 := BitVec.ofInt 64 inc <<< 32
/-- What New hands back. -/
def NewE (c : Cfg) (m : List B8) (i inc : Int) (v : Value) (hs : Hp) : Prop := ∃ ep mb r fr cm, v = .tuple #[.pointer (some ⟨ep, 0, none⟩), .int .i64 0] ∧ m.length ≤ cm ∧ List.Sublist [eE ep c ⟨some ⟨mb, 0, none⟩, m, cm⟩ i (firstOf inc) 0#64 wait0, ⟨mb, m.map b8 ++ r, 5, fr⟩] hs
theorem enew_yes (c : Cfg) (hc : c.In) (A : Option Addr) (m : List B8) (ck : Nat) (i inc : Int) (h : newP c m i inc) (w : World) (hA : At w A (m.map b8)) : Ret Tryz.prog 30 [c.v, .slice A m.length ck, .int .i64 i, .int .i64 inc] w (NewE c m i inc) := by
  obtain ⟨h1, h2', h3, h4⟩ := h
  have hck : ∀ w, Val Tryz.prog 64 [c.v] w (.int .i64 0) := fun w => by have := ccheck_v c hc w; rwa [if_pos h1] at this
  refine ret_vc tab_ok Tryz.func30 rfl rfl ?_
  repeat' ((try (conv => whnf)); (first | refine CallVC.val (fun w2 h2 => hck w2) ?_ | (refine AppendVC.nil (xs := m.map b8) tab_ok ap8 (Holds.at (by rw [List.length_map]) hA (by simp)) (by show (2 * _ + 192) * 1 ≤ _; omega) (fun h0 => by rw [h4] at h0; cases h0) (fun _ b2 c2 hc2 => ?_)) | refine Pick.mk _ (conv_i64_64 inc) ?_ | refine Pick.mk _ (shl_u64 (BitVec.ofInt 64 inc) 32 (by omega) (by omega)) ?_ | refine Pick.mk pl30_3 (by decide +kernel) ?_ | refine Need.au ?_ | (refine Split.mk (fun hsplit => ?_) (fun hsplit => ?_) <;> (try simp only [List.cons.injEq, and_true, true_and, not_true_eq_false, not_false_eq_true] at hsplit) <;> try (exfalso; omega)) | refine Pick.au ?_ | refine store_au ?_ | refine Any.mk (fun _ => ?_) | refine Both.mk ?_ ?_)); all_goals (try (conv => whnf))
  exact Done.mk ⟨_, b2, _, _, c2, rfl, hc2, List.Sublist.cons_cons _ (List.Sublist.cons_cons _ (List.nil_sublist _))⟩
theorem enew_no (c : Cfg) (hc : c.In) (A : Option Addr) (m : List B8) (ck : Nat) (i inc : Int) (h : ¬ newP c m i inc) (w : World) (hA : At w A (m.map b8)) : Val Tryz.prog 30 [c.v, .slice A m.length ck, .int .i64 i, .int .i64 inc] w (.tuple #[.pointer none, .int .i64 1]) := by
  refine val_vc tab_ok Tryz.func30 rfl rfl ?_
  repeat' ((try (conv => whnf)); (first | refine CallVC.ite (fun w2 h2 => ccheck_v c hc w2) (fun h1 => ?_) (fun h1 => ?_) | refine Pick.mk pl30_3 (by decide +kernel) ?_ | refine Need.au ?_ | (refine Split.mk (fun hsplit => ?_) (fun hsplit => ?_) <;> (try simp only [List.cons.injEq, and_true, true_and, not_true_eq_false, not_false_eq_true] at hsplit) <;> try (exfalso; omega)) | refine Pick.au ?_ | refine store_au ?_ | refine Any.mk (fun _ => ?_) | refine Both.mk ?_ ?_)); all_goals (try (conv => whnf))
  all_goals first | exact Done.mk rfl | (exfalso; exact h ⟨h1, by omega, by omega, by omega⟩)
end
section
set_option linter.unusedVariables false
set_option linter.unusedSimpArgs false
set_option maxRecDepth 100000
set_option maxHeartbeats 8000000
open Go
attribute [local irreducible] bitsOf shlOf shrOf
theorem drop_len2 {α : Type} {a b : List α} {n : Nat} (k : Nat) (h : a.length = n) : (a ++ b).drop (n + k) = b.drop k := by rw [← List.drop_drop, drop_len h]
theorem take_len2 {α : Type} {a b : List α} {n : Nat} (k : Nat) (h : a.length = n) : (a ++ b).take (n + k) = a ++ b.take k := by rw [List.take_add, take_len h, drop_len h]
theorem flatP_app : ∀ ps qs : List (BitVec 64 × Int), flatP (ps ++ qs) = flatP ps ++ flatP qs
  | [], qs => rfl
  | p :: r, qs => by simp only [List.cons_append, flatP, flatP_app r qs]
theorem flatP_set {ps : List (BitVec 64 × Int)} {j : Nat} (hj : j < ps.length) (n : BitVec 64) (t : Int) : flatP (ps.set j (n, t)) = (flatP ps).take (2 * j) ++ [w64 n, .int .i64 t] ++ (flatP ps).drop (2 * j + 2) := by
  have e : ps = ps.take j ++ ps.getD j (0, 0) :: ps.drop (j + 1) := by
    rw [List.getD_eq_getElem?_getD, List.getElem?_eq_getElem hj]
    exact (List.take_append_drop j ps).symm.trans (by rw [List.drop_eq_getElem_cons hj]; rfl)
  have hl : (ps.take j).length = j := by rw [List.length_take]; omega
  have h1 : flatP ps = flatP (ps.take j) ++ (w64 (ps.getD j (0, 0)).1 :: .int .i64 (ps.getD j (0, 0)).2 :: flatP (ps.drop (j + 1))) := by
    conv => lhs; rw [e]
    rw [flatP_app]; rfl
  have hf : (flatP (ps.take j)).length = 2 * j := by rw [flatP_len, hl]
  have h2 : ps.set j (n, t) = ps.take j ++ (n, t) :: ps.drop (j + 1) := by rw [List.set_eq_take_append_cons_drop, if_pos hj]
  rw [h2, flatP_app, h1, take_len hf, drop_len2 2 hf, List.append_assoc]
  rfl
section
variable {G : Cx} {hs hs' : Hp} {K : Hp → Prop} {ep : Nat} {c : Cfg} {M : Sl} {i : Int} {first count : BitVec 64} {wait : List (BitVec 64 × Int)}
theorem store_wait {j : Nat} {n : BitVec 64} {t : Int} (hj : j < wait.length) (hu : Upd (eE ep c M i first count wait) (eE ep c M i first count (wait.set j (n, t))) hs hs') (h : K hs') : StoreVC G hs (Addr.add ⟨ep, 14, none⟩ (j * 2)) [w64 n, .int .i64 t] K := by
  have hl : (c.cs ++ [M.v, .int .i64 i, w64 first, w64 count]).length = 14 := rfl
  have hw := flatP_len wait
  rw [add_plain]
  refine StoreVC.at_ (t := 48) (fr := (0, 0)) (cs := eCs c M i first count wait) ?_ soft0 rfl (by show 14 + j * 2 + 2 ≤ _; rw [eCs, List.length_append, hl]; omega) h
  rw [layL_eq _ _ _ (by show 14 + j * 2 + 2 ≤ _; rw [eCs, List.length_append, hl]; omega)]
  have e : eCs c M i first count (wait.set j (n, t)) = (eCs c M i first count wait).take (14 + j * 2) ++ [w64 n, .int .i64 t] ++ (eCs c M i first count wait).drop (14 + j * 2 + 2) := by
    show _ ++ flatP (wait.set j (n, t)) = _
    rw [flatP_set hj, eCs]
    generalize c.cs ++ [M.v, .int .i64 i, w64 first, w64 count] = pre at *
    rw [take_len2 (j * 2) hl, Nat.add_assoc 14, drop_len2 (j * 2 + 2) hl, Nat.mul_comm j 2]
    simp only [List.append_assoc]
  show Upd _ ⟨ep, (eCs c M i first count wait).take (14 + j * 2) ++ [w64 n, .int .i64 t] ++ (eCs c M i first count wait).drop (14 + j * 2 + 2), _, _⟩ hs hs'
  rw [← e]
  exact hu
theorem store_none (hl8 : wait.length = 8) (hu : Upd (eE ep c M i first count wait) (eE ep c M i first count wait0) hs hs') (h : K hs') : StoreVC G hs ⟨ep, 14, none⟩ (flatP wait0) K := by
  have hl : (c.cs ++ [M.v, .int .i64 i, w64 first, w64 count]).length = 14 := rfl
  have hw := flatP_len wait
  have hz : (flatP wait0).length = 16 := rfl
  refine StoreVC.at_ (t := 48) (fr := (0, 0)) (cs := eCs c M i first count wait) ?_ soft0 rfl (by rw [eCs, List.length_append, hl]; omega) h
  rw [layL_eq _ _ _ (by rw [eCs, List.length_append, hl]; omega)]
  have e : eCs c M i first count wait0 = (eCs c M i first count wait).take 14 ++ flatP wait0 ++ (eCs c M i first count wait).drop (14 + (flatP wait0).length) := by
    rw [hz, eCs, eCs]
    generalize c.cs ++ [M.v, .int .i64 i, w64 first, w64 count] = pre at *
    rw [take_len hl, drop_len2 16 hl, List.drop_of_length_le (by omega), List.append_nil]
  rw [← e]
  exact hu
end
end
end Go.Proofs.YtnlheljpagpiiaaGreat
