/-
  Frames: what may be one, as a whole; program and document; every input.
-/
import Derived.Test.YtnlheljpagpiiaaFa
set_option linter.unusedVariables false
set_option linter.unusedSimpArgs false
set_option maxRecDepth 100000
set_option maxHeartbeats 8000000
namespace Go.Proofs.Ytnlheljpagpiiaa
open Go
attribute [local irreducible] bitsOf shlOf shrOf
theorem within5_v (b : Nat) (x1 m1 x2 m2 x3 m3 x4 m4 x5 m5 : Int) (n : Nat) (hl : 5 = n) (c : Nat) (w : World) (hA : At w (some ⟨b, 0, none⟩) (flat [(x1, m1), (x2, m2), (x3, m3), (x4, m4), (x5, m5)])) : Val Try.prog 47 [.slice (some ⟨b, 0, none⟩) n c] w (if (0 ≤ x1 ∧ x1 ≤ m1) ∧ (0 ≤ x2 ∧ x2 ≤ m2) ∧ (0 ≤ x3 ∧ x3 ≤ m3) ∧ (0 ≤ x4 ∧ x4 ≤ m4) ∧ (0 ≤ x5 ∧ x5 ≤ m5) then .bool true else .bool false) := by
  have h := fwithin_v b [(x1, m1), (x2, m2), (x3, m3), (x4, m4), (x5, m5)] (by show 5 ≤ 1000; omega) n hl c w hA
  have e : (∀ p ∈ [(x1, m1), (x2, m2), (x3, m3), (x4, m4), (x5, m5)], 0 ≤ p.1 ∧ p.1 ≤ p.2) ↔ (0 ≤ x1 ∧ x1 ≤ m1) ∧ (0 ≤ x2 ∧ x2 ≤ m2) ∧ (0 ≤ x3 ∧ x3 ≤ m3) ∧ (0 ≤ x4 ∧ x4 ≤ m4) ∧ (0 ≤ x5 ∧ x5 ≤ m5) := by simp
  simp only [e] at h
  exact h
theorem fsizes_v (f : Fr) (w : World) : Val Try.prog 32 [f.v] w (if f.fine then .bool true else .bool false) := by
  refine val_vc tab_ok Try.func32 rfl rfl ?_
  repeat' ((try (conv => whnf)); (first | refine CallVC.ite (fun w2 h2 => within5_v _ f.epoch 65535 f.start 1048576 f.round 1048576 f.view 255 f.index 256 _ rfl _ w2 (at_in (by repeat (first | exact List.Mem.head _ | refine List.Mem.tail _ ?_)) h2)) (fun hsplit => ?_) (fun hsplit => ?_) | refine CallVC.ite (fun w2 h2 => fnode_v f.frm w2) (fun hsplit => ?_) (fun hsplit => ?_) | refine Need.au ?_ | (refine Split.mk (fun hsplit => ?_) (fun hsplit => ?_) <;> (try simp only [List.cons.injEq, and_true, true_and, not_true_eq_false, not_false_eq_true] at hsplit) <;> try (exfalso; omega)) | refine Pick.au ?_ | refine store_au ?_ | refine Any.mk (fun _ => ?_) | refine Both.mk ?_ ?_)); all_goals (try (conv => whnf))
  all_goals first | exact Done.mk (if_pos (by omega)).symm | exact Done.mk (if_neg (by omega)).symm
theorem fcheck_v (f : Fr) (w : World) : Val Try.prog 20 [f.v] w (if f.ok then .int .i64 0 else .int .i64 1) := by
  unfold Fr.ok
  refine val_vc tab_ok Try.func20 rfl rfl ?_
  repeat' ((try (conv => whnf)); (first | refine CallVC.ite (fun w2 h2 => fsizes_v f w2) (fun hsplit => ?_) (fun hsplit => ?_) | refine CallVC.ite (fun w2 h2 => fright_v f w2) (fun hsplit => ?_) (fun hsplit => ?_) | refine Need.au ?_ | (refine Split.mk (fun hsplit => ?_) (fun hsplit => ?_) <;> (try simp only [List.cons.injEq, and_true, true_and, not_true_eq_false, not_false_eq_true] at hsplit) <;> try (exfalso; omega)) | refine Pick.au ?_ | refine store_au ?_ | refine Any.mk (fun _ => ?_) | refine Both.mk ?_ ?_)); all_goals (try (conv => whnf))
  all_goals first | exact Done.mk (if_pos ⟨by assumption, by assumption⟩).symm | exact Done.mk (if_neg (fun h => absurd h.1 (by assumption))).symm | exact Done.mk (if_neg (fun h => absurd h.2 (by assumption))).symm
/-- A function's code; its first piece, and the others. -/
def bodyC : Option Code → Code
  | some c => c
  | none => .skip
def fstC : Code → Code
  | .seq x _ => x
  | c => c
def sndC : Code → Code
  | .seq _ y => y
  | c => c
theorem piece_sound {G : Cx} {T : Tab} {r : Option Nat} {ds : List Deferred} (hT : TabOK G.P T) {N : Nat} {K : Env → Hp → Prop} {Q : Exit → Act → World → Prop} (c : Code) (hc : c = .seq (fstC c) (sndC c)) (env : Env) (hs : Hp) (a : Act) (w : World)
    (h : codeVC G T N (fstC c) env hs K (fun _ _ _ => False) (fun _ _ => False)) (hK : ∀ env hs a w, K env hs → Fits ds N env a → St G hs w → (sndC c).wpIn (FR r) 0 G.P Q a w) (hf : Fits ds N env a) (hw : St G hs w) : c.wpIn (FR r) 0 G.P Q a w := by
  rw [hc]
  exact wpIn_seq (codeVC_sound hT _ _ _ _ _ _ _ _ _ h ⟨fun env' hs' a' w' hk hf' hw' => hK _ _ _ _ hk hf' hw', fun id env' hs' a' w' hk hf' hw' => hk.elim, fun env' hs' a' w' hk hf' hw' => hk.elim⟩ hf hw)
structure Rc0 (f : Fr) (env : Env) (hs : Hp) : Prop where mk ::
  out : ∃ (b : Nat), Sub [(1, .pointer (some ⟨b, 0, none⟩))] env ∧ List.Sublist [eF b f] hs
structure Rc1 (f : Fr) (b : Nat) (env : Env) (hs : Hp) : Prop where mk ::
  out : ∃ (t3 : Bool), (t3 = true ↔ f.fine) ∧ Sub [(1, .pointer (some ⟨b, 0, none⟩)), (3, .bool t3)] env ∧ List.Sublist [eF b f] hs
structure Rc2 (f : Fr) (b : Nat) (t3 : Bool) (env : Env) (hs : Hp) : Prop where mk ::
  out : ∃ (t4 : Bool), (t4 = true ↔ f.noKey) ∧ Sub [(1, .pointer (some ⟨b, 0, none⟩)), (3, .bool t3), (4, .bool t4)] env ∧ List.Sublist [eF b f] hs
structure Rc3 (f : Fr) (b : Nat) (t3 t4 : Bool) (env : Env) (hs : Hp) : Prop where mk ::
  out : ∃ (t5 : Bool), (t5 = true ↔ f.noData) ∧ Sub [(1, .pointer (some ⟨b, 0, none⟩)), (3, .bool t3), (4, .bool t4), (5, .bool t5)] env ∧ List.Sublist [eF b f] hs
structure Rc4 (f : Fr) (b : Nat) (t3 t4 t5 : Bool) (env : Env) (hs : Hp) : Prop where mk ::
  out : ∃ (t6 : Bool), (t6 = true ↔ f.pair) ∧ Sub [(1, .pointer (some ⟨b, 0, none⟩)), (3, .bool t3), (4, .bool t4), (5, .bool t5), (6, .bool t6)] env ∧ List.Sublist [eF b f] hs
structure Rc6 (f : Fr) (env : Env) (hs : Hp) : Prop where mk ::
  out : ∃ (t3 : Bool), (t3 = true ↔ f.ok) ∧ Sub [(3, .bool t3)] env
end Go.Proofs.Ytnlheljpagpiiaa
