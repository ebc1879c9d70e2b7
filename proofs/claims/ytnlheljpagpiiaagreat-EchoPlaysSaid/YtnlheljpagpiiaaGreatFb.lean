/-
  Frames: what may be one, as a whole; program and document; every input.
-/
import Derived.Test.YtnlheljpagpiiaaGreatFa
set_option linter.unusedVariables false
set_option linter.unusedSimpArgs false
set_option maxRecDepth 100000
set_option maxHeartbeats 8000000
namespace Go.Proofs.YtnlheljpagpiiaaGreat
open Go
attribute [local irreducible] bitsOf shlOf shrOf
theorem within5_v (b : Nat) (x1 m1 x2 m2 x3 m3 x4 m4 x5 m5 : Int) (n : Nat) (hl : 5 = n) (c : Nat) (w : World) (hA : At w (some ⟨b, 0, none⟩) (flat [(x1, m1), (x2, m2), (x3, m3), (x4, m4), (x5, m5)])) : Val Tryz.prog 123 [.slice (some ⟨b, 0, none⟩) n c] w (if (0 ≤ x1 ∧ x1 ≤ m1) ∧ (0 ≤ x2 ∧ x2 ≤ m2) ∧ (0 ≤ x3 ∧ x3 ≤ m3) ∧ (0 ≤ x4 ∧ x4 ≤ m4) ∧ (0 ≤ x5 ∧ x5 ≤ m5) then .bool true else .bool false) := by
  have h := fwithin_v b [(x1, m1), (x2, m2), (x3, m3), (x4, m4), (x5, m5)] (by show 5 ≤ 1000; omega) n hl c w hA
  have e : (∀ p ∈ [(x1, m1), (x2, m2), (x3, m3), (x4, m4), (x5, m5)], 0 ≤ p.1 ∧ p.1 ≤ p.2) ↔ (0 ≤ x1 ∧ x1 ≤ m1) ∧ (0 ≤ x2 ∧ x2 ≤ m2) ∧ (0 ≤ x3 ∧ x3 ≤ m3) ∧ (0 ≤ x4 ∧ x4 ≤ m4) ∧ (0 ≤ x5 ∧ x5 ≤ m5) := by simp
  simp only [e] at h
  exact h
theorem fsizes_v (f : Fr) (w : World) : Val Tryz.prog 86 [f.v] w (if f.fine then .bool true else .bool false) := by
  refine val_vc tab_ok Tryz.func86 rfl rfl ?_
  repeat' ((try (conv => whnf)); (first | refine CallVC.ite (fun w2 h2 => within5_v _ f.epoch 65535 f.start 1048576 f.round 1048576 f.view 255 f.index 256 _ rfl _ w2 (at_in (by repeat (first | exact List.Mem.head _ | refine List.Mem.tail _ ?_)) h2)) (fun hsplit => ?_) (fun hsplit => ?_) | refine CallVC.ite (fun w2 h2 => fnode_v f.frm w2) (fun hsplit => ?_) (fun hsplit => ?_) | refine Need.au ?_ | (refine Split.mk (fun hsplit => ?_) (fun hsplit => ?_) <;> (try simp only [List.cons.injEq, and_true, true_and, not_true_eq_false, not_false_eq_true] at hsplit) <;> try (exfalso; omega)) | refine Pick.au ?_ | refine store_au ?_ | refine Any.mk (fun _ => ?_) | refine Both.mk ?_ ?_)); all_goals (try (conv => whnf))
  all_goals first | exact Done.mk (if_pos (by omega)).symm | exact Done.mk (if_neg (by omega)).symm
theorem fcheck_v (f : Fr) (w : World) : Val Tryz.prog 52 [f.v] w (if f.ok then .int .i64 0 else .int .i64 1) := by
  unfold Fr.ok
  refine val_vc tab_ok Tryz.func52 rfl rfl ?_
  repeat' ((try (conv => whnf)); (first | refine CallVC.ite (fun w2 h2 => fsizes_v f w2) (fun hsplit => ?_) (fun hsplit => ?_) | refine CallVC.ite (fun w2 h2 => fright_v f w2) (fun hsplit => ?_) (fun hsplit => ?_) | refine Need.au ?_ | (refine Split.mk (fun hsplit => ?_) (fun hsplit => ?_) <;> (try simp only [List.cons.injEq, and_true, true_and, not_true_eq_false, not_false_eq_true] at hsplit) <;> try (exfalso; omega)) | refine Pick.au ?_ | refine store_au ?_ | refine Any.mk (fun _ => ?_) | refine Both.mk ?_ ?_)); all_goals (try (conv => whnf))
  all_goals first | exact Done.mk (if_pos ⟨by assumption, by assumption⟩).symm | exact Done.mk (if_neg (fun h => absurd h.1 (by assumption))).symm | exact Done.mk (if_neg (fun h => absurd h.2 (by assumption))).symm
/-- A function's code; its first piece, and the others. -/
def bodyC : Option Code → Code
  | some c => c
  | none => .skip
def fstC : Code → Code
  | .seq x _ => x
  | c => c
def sndC : Code → Code
  | .seq _ y => y
  | c => c
theorem piece_sound {G : Cx} {T : Tab} {r : Option Nat} {ds : List Deferred} (hT : TabOK G.P T) {N : Nat} {K : Env → Hp → Prop} {Q : Exit → Act → World → Prop} (c : Code) (hc : c = .seq (fstC c) (sndC c)) (env : Env) (hs : Hp) (a : Act) (w : World)
    (h : codeVC G T N (fstC c) env hs K (fun _ _ _ => False) (fun _ _ => False)) (hK : ∀ env hs a w, K env hs → Fits ds N env a → St G hs w → (sndC c).wpIn (FR r) 0 G.P Q a w) (hf : Fits ds N env a) (hw : St G hs w) : c.wpIn (FR r) 0 G.P Q a w := by
  rw [hc]
  exact wpIn_seq (codeVC_sound hT _ _ _ _ _ _ _ _ _ h ⟨fun env' hs' a' w' hk hf' hw' => hK _ _ _ _ hk hf' hw', fun id env' hs' a' w' hk hf' hw' => hk.elim, fun env' hs' a' w' hk hf' hw' => hk.elim⟩ hf hw)
structure Rc0 (f : Fr) (env : Env) (hs : Hp) : Prop where mk ::
  out : ∃ (b : Nat), Sub [(1, .pointer (some ⟨b, 0, none⟩))] env ∧ List.Sublist [eF b f] hs
structure Rc1 (f : Fr) (b : Nat) (env : Env) (hs : Hp) : Prop where mk ::
  out : ∃ (t3 : Bool), (t3 = true ↔ f.fine) ∧ Sub [(1, .pointer (some ⟨b, 0, none⟩)), (3, .bool t3)] env ∧ List.Sublist [eF b f] hs
structure Rc2 (f : Fr) (b : Nat) (t3 : Bool) (env : Env) (hs : Hp) : Prop where mk ::
  out : ∃ (t4 : Bool), (t4 = true ↔ f.noKey) ∧ Sub [(1, .pointer (some ⟨b, 0, none⟩)), (3, .bool t3), (4, .bool t4)] env ∧ List.Sublist [eF b f] hs
structure Rc3 (f : Fr) (b : Nat) (t3 t4 : Bool) (env : Env) (hs : Hp) : Prop where mk ::
  out : ∃ (t5 : Bool), (t5 = true ↔ f.noData) ∧ Sub [(1, .pointer (some ⟨b, 0, none⟩)), (3, .bool t3), (4, .bool t4), (5, .bool t5)] env ∧ List.Sublist [eF b f] hs
structure Rc4 (f : Fr) (b : Nat) (t3 t4 t5 : Bool) (env : Env) (hs : Hp) : Prop where mk ::
  out : ∃ (t6 : Bool), (t6 = true ↔ f.pair) ∧ Sub [(1, .pointer (some ⟨b, 0, none⟩)), (3, .bool t3), (4, .bool t4), (5, .bool t5), (6, .bool t6)] env ∧ List.Sublist [eF b f] hs
structure Rc6 (f : Fr) (env : Env) (hs : Hp) : Prop where mk ::
  out : ∃ (t3 : Bool), (t3 = true ↔ f.ok) ∧ Sub [(3, .bool t3)] env
theorem rc0 (f : Fr) (w : World) : codeVC ⟨Tryz.prog, w, []⟩ tab Tryz.f72.ntmps (fstC (bodyC Tryz.f72.body)) (mkEnv [f.v] 0) [] (Rc0 f) (fun _ _ _ => False) (fun _ _ => False) := by
  repeat' ((try (conv => whnf)); (first | refine Need.au ?_ | (refine Split.mk (fun hsplit => ?_) (fun hsplit => ?_) <;> (try simp only [List.cons.injEq, and_true, true_and, not_true_eq_false, not_false_eq_true] at hsplit) <;> try (exfalso; omega)) | refine Pick.au ?_ | refine store_au ?_ | refine Any.mk (fun _ => ?_) | refine Both.mk ?_ ?_)); all_goals (try (conv => whnf))
  exact Rc0.mk ⟨_, Sub.cons rfl Sub.nil, List.Sublist.refl _⟩
theorem rc1 (f : Fr) (w : World) (b : Nat) : codeVC ⟨Tryz.prog, w, []⟩ tab Tryz.f72.ntmps (fstC (sndC (bodyC Tryz.f72.body))) [(1, .pointer (some ⟨b, 0, none⟩))] [eF b f] (Rc1 f b) (fun _ _ _ => False) (fun _ _ => False) := by
  repeat' ((try (conv => whnf)); (first | refine CallVC.ite (fun w2 h2 => rwithin_v _ _ w2) (fun hsplit => ?_) (fun hsplit => ?_) | refine Need.au ?_ | (refine Split.mk (fun hsplit => ?_) (fun hsplit => ?_) <;> (try simp only [List.cons.injEq, and_true, true_and, not_true_eq_false, not_false_eq_true] at hsplit) <;> try (exfalso; omega)) | refine Pick.au ?_ | refine store_au ?_ | refine Any.mk (fun _ => ?_) | refine Both.mk ?_ ?_)); all_goals (try (conv => whnf))
  all_goals first | exact Rc1.mk ⟨true, by simp only [true_iff]; omega, Sub.cons rfl (Sub.cons rfl Sub.nil), List.Sublist.refl _⟩ | exact Rc1.mk ⟨false, by simp only [Bool.false_eq_true, false_iff]; omega, Sub.cons rfl (Sub.cons rfl Sub.nil), List.Sublist.refl _⟩
theorem rc2 (f : Fr) (w : World) (b : Nat) (t3 : Bool) : codeVC ⟨Tryz.prog, w, []⟩ tab Tryz.f72.ntmps (fstC (sndC (sndC (bodyC Tryz.f72.body)))) [(1, .pointer (some ⟨b, 0, none⟩)), (3, .bool t3)] [eF b f] (Rc2 f b t3) (fun _ _ _ => False) (fun _ _ => False) := by
  repeat' ((try (conv => whnf)); (first | refine Need.au ?_ | (refine Split.mk (fun hsplit => ?_) (fun hsplit => ?_) <;> (try simp only [List.cons.injEq, and_true, true_and, not_true_eq_false, not_false_eq_true] at hsplit) <;> try (exfalso; omega)) | refine Pick.au ?_ | refine store_au ?_ | refine Any.mk (fun _ => ?_) | refine Both.mk ?_ ?_)); all_goals (try (conv => whnf))
  all_goals first | exact Rc2.mk ⟨true, by simp only [true_iff]; omega, Sub.cons rfl (Sub.cons rfl (Sub.cons rfl Sub.nil)), List.Sublist.refl _⟩ | exact Rc2.mk ⟨false, by simp only [Bool.false_eq_true, false_iff]; omega, Sub.cons rfl (Sub.cons rfl (Sub.cons rfl Sub.nil)), List.Sublist.refl _⟩
theorem rc3 (f : Fr) (w : World) (b : Nat) (t3 t4 : Bool) : codeVC ⟨Tryz.prog, w, []⟩ tab Tryz.f72.ntmps (fstC (sndC (sndC (sndC (bodyC Tryz.f72.body))))) [(1, .pointer (some ⟨b, 0, none⟩)), (3, .bool t3), (4, .bool t4)] [eF b f] (Rc3 f b t3 t4) (fun _ _ _ => False) (fun _ _ => False) := by
  repeat' ((try (conv => whnf)); (first | refine Need.au ?_ | (refine Split.mk (fun hsplit => ?_) (fun hsplit => ?_) <;> (try simp only [List.cons.injEq, and_true, true_and, not_true_eq_false, not_false_eq_true] at hsplit) <;> try (exfalso; omega)) | refine Pick.au ?_ | refine store_au ?_ | refine Any.mk (fun _ => ?_) | refine Both.mk ?_ ?_)); all_goals (try (conv => whnf))
  all_goals first | exact Rc3.mk ⟨true, by simp only [true_iff]; omega, Sub.cons rfl (Sub.cons rfl (Sub.cons rfl (Sub.cons rfl Sub.nil))), List.Sublist.refl _⟩ | exact Rc3.mk ⟨false, by simp only [Bool.false_eq_true, false_iff]; omega, Sub.cons rfl (Sub.cons rfl (Sub.cons rfl (Sub.cons rfl Sub.nil))), List.Sublist.refl _⟩
theorem rc4 (f : Fr) (w : World) (b : Nat) (t3 t4 t5 : Bool) : codeVC ⟨Tryz.prog, w, []⟩ tab Tryz.f72.ntmps (fstC (sndC (sndC (sndC (sndC (bodyC Tryz.f72.body)))))) [(1, .pointer (some ⟨b, 0, none⟩)), (3, .bool t3), (4, .bool t4), (5, .bool t5)] [eF b f] (Rc4 f b t3 t4 t5) (fun _ _ _ => False) (fun _ _ => False) := by
  repeat' ((try (conv => whnf)); (first | refine CallVC.ite (fun w2 h2 => rwithin_v _ _ w2) (fun hsplit => ?_) (fun hsplit => ?_) | refine Need.au ?_ | (refine Split.mk (fun hsplit => ?_) (fun hsplit => ?_) <;> (try simp only [List.cons.injEq, and_true, true_and, not_true_eq_false, not_false_eq_true] at hsplit) <;> try (exfalso; omega)) | refine Pick.au ?_ | refine store_au ?_ | refine Any.mk (fun _ => ?_) | refine Both.mk ?_ ?_)); all_goals (try (conv => whnf))
  all_goals first | exact Rc4.mk ⟨true, by simp only [true_iff]; omega, Sub.cons rfl (Sub.cons rfl (Sub.cons rfl (Sub.cons rfl (Sub.cons rfl Sub.nil)))), List.Sublist.refl _⟩ | exact Rc4.mk ⟨false, by simp only [Bool.false_eq_true, false_iff]; omega, Sub.cons rfl (Sub.cons rfl (Sub.cons rfl (Sub.cons rfl (Sub.cons rfl Sub.nil)))), List.Sublist.refl _⟩
theorem rc6a (f : Fr) (w : World) (b : Nat) (t3 t4 t5 t6 : Bool) (h3 : t3 = true ↔ f.fine) (h4 : t4 = true ↔ f.noKey) (h5 : t5 = true ↔ f.noData) (h6 : t6 = true ↔ f.pair) (hk : f.kind = 1) : codeVC ⟨Tryz.prog, w, []⟩ tab Tryz.f72.ntmps (fstC (sndC (sndC (sndC (sndC (sndC (bodyC Tryz.f72.body))))))) [(1, .pointer (some ⟨b, 0, none⟩)), (3, .bool t3), (4, .bool t4), (5, .bool t5), (6, .bool t6)] [eF b f] (Rc6 f) (fun _ _ _ => False) (fun _ _ => False) := by
  cases t3 <;> simp only [true_iff, Bool.false_eq_true, false_iff] at h3
  all_goals
    repeat' ((try (conv => whnf)); (first | refine Need.au ?_ | (refine Split.mk (fun hsplit => ?_) (fun hsplit => ?_) <;> (try simp only [List.cons.injEq, and_true, true_and, not_true_eq_false, not_false_eq_true] at hsplit) <;> try (exfalso; omega)) | refine Pick.au ?_ | refine store_au ?_ | refine Any.mk (fun _ => ?_) | refine Both.mk ?_ ?_)); all_goals (try (conv => whnf))
    all_goals first | exact Rc6.mk ⟨true, by unfold Fr.ok; simp only [true_iff]; omega, Sub.cons rfl Sub.nil⟩ | exact Rc6.mk ⟨false, by unfold Fr.ok; simp only [Bool.false_eq_true, false_iff]; omega, Sub.cons rfl Sub.nil⟩
theorem rc6b (f : Fr) (w : World) (b : Nat) (t3 t4 t5 t6 : Bool) (h3 : t3 = true ↔ f.fine) (h4 : t4 = true ↔ f.noKey) (h5 : t5 = true ↔ f.noData) (h6 : t6 = true ↔ f.pair) (hk : f.kind = 2) : codeVC ⟨Tryz.prog, w, []⟩ tab Tryz.f72.ntmps (fstC (sndC (sndC (sndC (sndC (sndC (bodyC Tryz.f72.body))))))) [(1, .pointer (some ⟨b, 0, none⟩)), (3, .bool t3), (4, .bool t4), (5, .bool t5), (6, .bool t6)] [eF b f] (Rc6 f) (fun _ _ _ => False) (fun _ _ => False) := by
  cases t3 <;> simp only [true_iff, Bool.false_eq_true, false_iff] at h3
  · repeat' ((try (conv => whnf)); (first | refine Need.au ?_ | (refine Split.mk (fun hsplit => ?_) (fun hsplit => ?_) <;> (try simp only [List.cons.injEq, and_true, true_and, not_true_eq_false, not_false_eq_true] at hsplit) <;> try (exfalso; omega)) | refine Pick.au ?_ | refine store_au ?_ | refine Any.mk (fun _ => ?_) | refine Both.mk ?_ ?_)); all_goals (try (conv => whnf))
    all_goals first | exact Rc6.mk ⟨true, by unfold Fr.ok; simp only [true_iff]; omega, Sub.cons rfl Sub.nil⟩ | exact Rc6.mk ⟨false, by unfold Fr.ok; simp only [Bool.false_eq_true, false_iff]; omega, Sub.cons rfl Sub.nil⟩
  cases t6 <;> simp only [true_iff, Bool.false_eq_true, false_iff] at h6
  · repeat' ((try (conv => whnf)); (first | refine Need.au ?_ | (refine Split.mk (fun hsplit => ?_) (fun hsplit => ?_) <;> (try simp only [List.cons.injEq, and_true, true_and, not_true_eq_false, not_false_eq_true] at hsplit) <;> try (exfalso; omega)) | refine Pick.au ?_ | refine store_au ?_ | refine Any.mk (fun _ => ?_) | refine Both.mk ?_ ?_)); all_goals (try (conv => whnf))
    all_goals first | exact Rc6.mk ⟨true, by unfold Fr.ok; simp only [true_iff]; omega, Sub.cons rfl Sub.nil⟩ | exact Rc6.mk ⟨false, by unfold Fr.ok; simp only [Bool.false_eq_true, false_iff]; omega, Sub.cons rfl Sub.nil⟩
  cases t4 <;> simp only [true_iff, Bool.false_eq_true, false_iff] at h4
  · repeat' ((try (conv => whnf)); (first | refine Need.au ?_ | (refine Split.mk (fun hsplit => ?_) (fun hsplit => ?_) <;> (try simp only [List.cons.injEq, and_true, true_and, not_true_eq_false, not_false_eq_true] at hsplit) <;> try (exfalso; omega)) | refine Pick.au ?_ | refine store_au ?_ | refine Any.mk (fun _ => ?_) | refine Both.mk ?_ ?_)); all_goals (try (conv => whnf))
    all_goals first | exact Rc6.mk ⟨true, by unfold Fr.ok; simp only [true_iff]; omega, Sub.cons rfl Sub.nil⟩ | exact Rc6.mk ⟨false, by unfold Fr.ok; simp only [Bool.false_eq_true, false_iff]; omega, Sub.cons rfl Sub.nil⟩
  cases t5 <;> simp only [true_iff, Bool.false_eq_true, false_iff] at h5
  all_goals
    repeat' ((try (conv => whnf)); (first | refine Need.au ?_ | (refine Split.mk (fun hsplit => ?_) (fun hsplit => ?_) <;> (try simp only [List.cons.injEq, and_true, true_and, not_true_eq_false, not_false_eq_true] at hsplit) <;> try (exfalso; omega)) | refine Pick.au ?_ | refine store_au ?_ | refine Any.mk (fun _ => ?_) | refine Both.mk ?_ ?_)); all_goals (try (conv => whnf))
    all_goals first | exact Rc6.mk ⟨true, by unfold Fr.ok; simp only [true_iff]; omega, Sub.cons rfl Sub.nil⟩ | exact Rc6.mk ⟨false, by unfold Fr.ok; simp only [Bool.false_eq_true, false_iff]; omega, Sub.cons rfl Sub.nil⟩
theorem rc6c (f : Fr) (w : World) (b : Nat) (t3 t4 t5 t6 : Bool) (h3 : t3 = true ↔ f.fine) (h4 : t4 = true ↔ f.noKey) (h5 : t5 = true ↔ f.noData) (h6 : t6 = true ↔ f.pair) (hk : f.kind = 3) : codeVC ⟨Tryz.prog, w, []⟩ tab Tryz.f72.ntmps (fstC (sndC (sndC (sndC (sndC (sndC (bodyC Tryz.f72.body))))))) [(1, .pointer (some ⟨b, 0, none⟩)), (3, .bool t3), (4, .bool t4), (5, .bool t5), (6, .bool t6)] [eF b f] (Rc6 f) (fun _ _ _ => False) (fun _ _ => False) := by
  cases t3 <;> simp only [true_iff, Bool.false_eq_true, false_iff] at h3
  · repeat' ((try (conv => whnf)); (first | refine Need.au ?_ | (refine Split.mk (fun hsplit => ?_) (fun hsplit => ?_) <;> (try simp only [List.cons.injEq, and_true, true_and, not_true_eq_false, not_false_eq_true] at hsplit) <;> try (exfalso; omega)) | refine Pick.au ?_ | refine store_au ?_ | refine Any.mk (fun _ => ?_) | refine Both.mk ?_ ?_)); all_goals (try (conv => whnf))
    all_goals first | exact Rc6.mk ⟨true, by unfold Fr.ok; simp only [true_iff]; omega, Sub.cons rfl Sub.nil⟩ | exact Rc6.mk ⟨false, by unfold Fr.ok; simp only [Bool.false_eq_true, false_iff]; omega, Sub.cons rfl Sub.nil⟩
  cases t6 <;> simp only [true_iff, Bool.false_eq_true, false_iff] at h6
  · repeat' ((try (conv => whnf)); (first | refine Need.au ?_ | (refine Split.mk (fun hsplit => ?_) (fun hsplit => ?_) <;> (try simp only [List.cons.injEq, and_true, true_and, not_true_eq_false, not_false_eq_true] at hsplit) <;> try (exfalso; omega)) | refine Pick.au ?_ | refine store_au ?_ | refine Any.mk (fun _ => ?_) | refine Both.mk ?_ ?_)); all_goals (try (conv => whnf))
    all_goals first | exact Rc6.mk ⟨true, by unfold Fr.ok; simp only [true_iff]; omega, Sub.cons rfl Sub.nil⟩ | exact Rc6.mk ⟨false, by unfold Fr.ok; simp only [Bool.false_eq_true, false_iff]; omega, Sub.cons rfl Sub.nil⟩
  cases t5 <;> simp only [true_iff, Bool.false_eq_true, false_iff] at h5
  all_goals
    repeat' ((try (conv => whnf)); (first | refine Need.au ?_ | (refine Split.mk (fun hsplit => ?_) (fun hsplit => ?_) <;> (try simp only [List.cons.injEq, and_true, true_and, not_true_eq_false, not_false_eq_true] at hsplit) <;> try (exfalso; omega)) | refine Pick.au ?_ | refine store_au ?_ | refine Any.mk (fun _ => ?_) | refine Both.mk ?_ ?_)); all_goals (try (conv => whnf))
    all_goals first | exact Rc6.mk ⟨true, by unfold Fr.ok; simp only [true_iff]; omega, Sub.cons rfl Sub.nil⟩ | exact Rc6.mk ⟨false, by unfold Fr.ok; simp only [Bool.false_eq_true, false_iff]; omega, Sub.cons rfl Sub.nil⟩
theorem rc6d (f : Fr) (w : World) (b : Nat) (t3 t4 t5 t6 : Bool) (h3 : t3 = true ↔ f.fine) (h4 : t4 = true ↔ f.noKey) (h5 : t5 = true ↔ f.noData) (h6 : t6 = true ↔ f.pair) (h1 : f.kind ≠ 1) (h2 : f.kind ≠ 2) (hk : f.kind ≠ 3) : codeVC ⟨Tryz.prog, w, []⟩ tab Tryz.f72.ntmps (fstC (sndC (sndC (sndC (sndC (sndC (bodyC Tryz.f72.body))))))) [(1, .pointer (some ⟨b, 0, none⟩)), (3, .bool t3), (4, .bool t4), (5, .bool t5), (6, .bool t6)] [eF b f] (Rc6 f) (fun _ _ _ => False) (fun _ _ => False) := by
  repeat' ((try (conv => whnf)); (first | refine Need.au ?_ | (refine Split.mk (fun hsplit => ?_) (fun hsplit => ?_) <;> (try simp only [List.cons.injEq, and_true, true_and, not_true_eq_false, not_false_eq_true] at hsplit) <;> try (exfalso; omega)) | refine Pick.au ?_ | refine store_au ?_ | refine Any.mk (fun _ => ?_) | refine Both.mk ?_ ?_)); all_goals (try (conv => whnf))
  all_goals first | exact Rc6.mk ⟨true, by unfold Fr.ok; simp only [true_iff]; omega, Sub.cons rfl Sub.nil⟩ | exact Rc6.mk ⟨false, by unfold Fr.ok; simp only [Bool.false_eq_true, false_iff]; omega, Sub.cons rfl Sub.nil⟩
theorem rc6 (f : Fr) (w : World) (b : Nat) (t3 t4 t5 t6 : Bool) (h3 : t3 = true ↔ f.fine) (h4 : t4 = true ↔ f.noKey) (h5 : t5 = true ↔ f.noData) (h6 : t6 = true ↔ f.pair) : codeVC ⟨Tryz.prog, w, []⟩ tab Tryz.f72.ntmps (fstC (sndC (sndC (sndC (sndC (sndC (bodyC Tryz.f72.body))))))) [(1, .pointer (some ⟨b, 0, none⟩)), (3, .bool t3), (4, .bool t4), (5, .bool t5), (6, .bool t6)] [eF b f] (Rc6 f) (fun _ _ _ => False) (fun _ _ => False) := by
  by_cases h1 : f.kind = 1
  · exact rc6a f w b t3 t4 t5 t6 h3 h4 h5 h6 h1
  by_cases h2 : f.kind = 2
  · exact rc6b f w b t3 t4 t5 t6 h3 h4 h5 h6 h2
  by_cases hk : f.kind = 3
  · exact rc6c f w b t3 t4 t5 t6 h3 h4 h5 h6 hk
  exact rc6d f w b t3 t4 t5 t6 h3 h4 h5 h6 h1 h2 hk
theorem rcheck_v (f : Fr) (w : World) : Val Tryz.prog 72 [f.v] w (if f.ok then .int .i64 0 else .int .i64 1) := by
  refine Val.ofRet (ret_marks (c := (bodyC Tryz.f72.body)) Tryz.func72 rfl rfl ?_)
  intro a hf hw
  refine piece_sound (G := ⟨Tryz.prog, w, []⟩) tab_ok _ rfl _ _ _ _ (rc0 f w) ?_ hf hw
  clear hf hw
  intro env hs a w1 hk hf hw1
  obtain ⟨b, hsub, hsl⟩ := hk.out
  replace hf := hf.sub hsub
  replace hw1 := hw1.sub hsl
  clear hk hsub hsl
  refine piece_sound (G := ⟨Tryz.prog, w, []⟩) tab_ok _ rfl _ _ _ _ (rc1 f w b) ?_ hf hw1
  clear hf hw1
  intro env hs a w1 hk hf hw1
  obtain ⟨t3, h3, hsub, hsl⟩ := hk.out
  replace hf := hf.sub hsub
  replace hw1 := hw1.sub hsl
  clear hk hsub hsl
  refine piece_sound (G := ⟨Tryz.prog, w, []⟩) tab_ok _ rfl _ _ _ _ (rc2 f w b t3) ?_ hf hw1
  clear hf hw1
  intro env hs a w1 hk hf hw1
  obtain ⟨t4, h4, hsub, hsl⟩ := hk.out
  replace hf := hf.sub hsub
  replace hw1 := hw1.sub hsl
  clear hk hsub hsl
  refine piece_sound (G := ⟨Tryz.prog, w, []⟩) tab_ok _ rfl _ _ _ _ (rc3 f w b t3 t4) ?_ hf hw1
  clear hf hw1
  intro env hs a w1 hk hf hw1
  obtain ⟨t5, h5, hsub, hsl⟩ := hk.out
  replace hf := hf.sub hsub
  replace hw1 := hw1.sub hsl
  clear hk hsub hsl
  refine piece_sound (G := ⟨Tryz.prog, w, []⟩) tab_ok _ rfl _ _ _ _ (rc4 f w b t3 t4 t5) ?_ hf hw1
  clear hf hw1
  intro env hs a w1 hk hf hw1
  obtain ⟨t6, h6, hsub, hsl⟩ := hk.out
  replace hf := hf.sub hsub
  replace hw1 := hw1.sub hsl
  clear hk hsub hsl
  refine piece_sound (G := ⟨Tryz.prog, w, []⟩) tab_ok _ rfl _ _ _ _ (rc6 f w b t3 t4 t5 t6 h3 h4 h5 h6) ?_ hf hw1
  clear hf hw1
  intro env hs a w1 hk hf hw1
  obtain ⟨t3, h3, hsub⟩ := hk.out
  replace hf := hf.sub hsub
  replace hw1 := hw1.sub (List.nil_sublist _)
  clear hk hsub
  refine codeVC_sound (G := ⟨Tryz.prog, w, []⟩) (ds := []) tab_ok _ _ _ (fun env hs => False) (fun _ _ _ => False) (retK ⟨Tryz.prog, w, []⟩ tab Tryz.f72.results.toList fun v hs => Done (v = (if f.ok then .int .i64 0 else .int .i64 1))) _ _ _ ?_ ⟨fun _ _ _ _ h => h.elim, fun _ _ _ _ _ h => h.elim, fun env hs a w hk hf hw => ahead_ret tab_ok hk hf hw⟩ hf hw1
  cases t3 <;> simp only [true_iff, Bool.false_eq_true, false_iff] at h3
  · repeat' ((try (conv => whnf)); (first | refine Need.au ?_ | (refine Split.mk (fun hsplit => ?_) (fun hsplit => ?_) <;> (try simp only [List.cons.injEq, and_true, true_and, not_true_eq_false, not_false_eq_true] at hsplit) <;> try (exfalso; omega)) | refine Pick.au ?_ | refine store_au ?_ | refine Any.mk (fun _ => ?_) | refine Both.mk ?_ ?_)); all_goals (try (conv => whnf))
    exact Done.mk (if_neg h3).symm
  · repeat' ((try (conv => whnf)); (first | refine Need.au ?_ | (refine Split.mk (fun hsplit => ?_) (fun hsplit => ?_) <;> (try simp only [List.cons.injEq, and_true, true_and, not_true_eq_false, not_false_eq_true] at hsplit) <;> try (exfalso; omega)) | refine Pick.au ?_ | refine store_au ?_ | refine Any.mk (fun _ => ?_) | refine Both.mk ?_ ?_)); all_goals (try (conv => whnf))
    exact Done.mk (if_pos h3).symm
end Go.Proofs.YtnlheljpagpiiaaGreat
