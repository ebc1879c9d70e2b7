/-
  Keys of nodes, steps of keys, tags under a salt; in the program and in the document; every input.
-/
import Derived.Test.YtnlheljpagpiiaaGreatKg
set_option linter.unusedVariables false
set_option linter.unusedSimpArgs false
set_option maxRecDepth 100000
set_option maxHeartbeats 8000000
namespace Go.Proofs.YtnlheljpagpiiaaGreat
open Go
attribute [local irreducible] bitsOf shlOf shrOf
theorem conv_i64_64 (x : Int) : ((BitVec.ofInt 64 x).toNat : Int) = IntKind.u64.wrap x := by
  simp [IntKind.wrap, IntKind.signed, IntKind.bits, BitVec.toNat_ofInt]
  omega
theorem givesE_toX {xs : List B8} {v : Value} {hs : Hp} (h : GivesE 5 (xs.map b8) (.int .i64 0) v hs) : GivesX xs 0 v hs := by
  obtain ⟨u, rfl, b, r, fr, rfl, hm, hf⟩ := h
  exact ⟨_, _, _, by rw [List.length_map], by rw [List.length_append, List.length_map]; omega, Own.row b xs r fr hf, List.singleton_sublist.2 hm⟩
def sPair : ByteArray := ⟨#[112, 97, 105, 114]⟩
def sOwn : ByteArray := ⟨#[111, 119, 110]⟩
def sChain : ByteArray := ⟨#[99, 104, 97, 105, 110]⟩
def sMac : ByteArray := ⟨#[109, 97, 99]⟩
def pairOf (m : List B8) (i j : Int) : List B8 × Int := if (0 ≤ i ∧ i < 8) ∧ (0 ≤ j ∧ j < 8) ∧ i ≠ j then kdfKey m sPair [BitVec.ofInt 64 (min i j), BitVec.ofInt 64 (max i j)] else ([], 1)
def ownOf (m : List B8) (i : Int) : List B8 × Int := if 0 ≤ i ∧ i < 8 then kdfKey m sOwn [BitVec.ofInt 64 i] else ([], 1)
def nextOf (k : List B8) (s : ByteArray) : List B8 × Int := if k.length = 16 then kdfKey k s [] else ([], 1)
theorem node_v (i : Int) (w : World) : Val Tryz.prog 132 [.int .i64 i] w (.bool (decide (0 ≤ i ∧ i < 8))) := by
  refine val_vc tab_ok Tryz.func132 rfl rfl ?_
  repeat' ((try (conv => whnf)); (first | refine Need.au ?_ | (refine Split.mk (fun hsplit => ?_) (fun hsplit => ?_) <;> (try simp only [List.cons.injEq, and_true, true_and, not_true_eq_false, not_false_eq_true] at hsplit) <;> try (exfalso; omega)) | refine Pick.au ?_ | refine store_au ?_ | refine Any.mk (fun _ => ?_) | refine Both.mk ?_ ?_)); all_goals (try (conv => whnf))
  · rw [decide_eq_true (by omega)]; exact Done.mk rfl
  · rw [decide_eq_false (by omega)]; exact Done.mk rfl
  · rw [decide_eq_false (by omega)]; exact Done.mk rfl
theorem node_yes {i : Int} (h : 0 ≤ i ∧ i < 8) (w : World) : Val Tryz.prog 132 [.int .i64 i] w (.bool true) := decide_eq_true h ▸ node_v i w
theorem node_no {i : Int} (h : ¬ (0 ≤ i ∧ i < 8)) (w : World) : Val Tryz.prog 132 [.int .i64 i] w (.bool false) := decide_eq_false h ▸ node_v i w
theorem pair_r (A : Option Addr) (m : List B8) (ck : Nat) (i j : Int) (hck : m.length ≤ ck) (w : World) (hA : At w A (m.map b8)) :
    Ret Tryz.prog 95 [.slice A m.length ck, .int .i64 i, .int .i64 j] w (GivesX (pairOf m i j).1 (pairOf m i j).2) := by
  unfold pairOf
  by_cases hi : 0 ≤ i ∧ i < 8
  · by_cases hj : 0 ≤ j ∧ j < 8
    · by_cases hij : i = j
      · rw [if_neg (by omega)]
        refine ret_vc tab_ok Tryz.func95 rfl rfl ?_
        repeat' ((try (conv => whnf)); (first | refine CallVC.val (fun w2 h2 => node_yes hi w2) ?_ | refine CallVC.val (fun w2 h2 => node_yes hj w2) ?_ | refine Need.au ?_ | (refine Split.mk (fun hsplit => ?_) (fun hsplit => ?_) <;> (try simp only [List.cons.injEq, and_true, true_and, not_true_eq_false, not_false_eq_true] at hsplit) <;> try (exfalso; omega)) | refine Pick.au ?_ | refine store_au ?_ | refine Any.mk (fun _ => ?_) | refine Both.mk ?_ ?_)); all_goals (try (conv => whnf))
        all_goals exact Done.mk GivesX.no
      · rw [if_pos ⟨hi, hj, hij⟩]
        refine ret_vc tab_ok Tryz.func95 rfl rfl ?_
        repeat' ((try (conv => whnf)); (first | refine CallVC.val (fun w2 h2 => node_yes hi w2) ?_ | refine CallVC.val (fun w2 h2 => node_yes hj w2) ?_ | refine Pick.mk _ (conv_i64_64 _) ?_ | (refine CallVC.givesX (fun w2 h2 => key_r A m ck sPair _ [BitVec.ofInt 64 (min i j), BitVec.ofInt 64 (max i j)] 2 hck (by decide) (by show 2 ≤ _; decide) w2 (hA.here h2 (fun _ _ => by simp)) (at_ent (by repeat (first | exact List.Mem.head _ | refine List.Mem.tail _ ?_)) h2)) (fun A' c' E hl hO => ?_)) | refine Need.au ?_ | (refine Split.mk (fun hsplit => ?_) (fun hsplit => ?_) <;> (try simp only [List.cons.injEq, and_true, true_and, not_true_eq_false, not_false_eq_true] at hsplit) <;> try (exfalso; omega)) | refine Pick.au ?_ | refine store_au ?_ | refine Any.mk (fun _ => ?_) | refine Both.mk ?_ ?_)); all_goals (try (conv => whnf))
        exact Done.mk ⟨_, _, _, rfl, hl, hO, List.sublist_append_left _ _⟩
    · rw [if_neg (fun h => hj h.2.1)]
      refine ret_vc tab_ok Tryz.func95 rfl rfl ?_
      repeat' ((try (conv => whnf)); (first | refine CallVC.val (fun w2 h2 => node_yes hi w2) ?_ | refine CallVC.val (fun w2 h2 => node_no hj w2) ?_ | refine Need.au ?_ | (refine Split.mk (fun hsplit => ?_) (fun hsplit => ?_) <;> (try simp only [List.cons.injEq, and_true, true_and, not_true_eq_false, not_false_eq_true] at hsplit) <;> try (exfalso; omega)) | refine Pick.au ?_ | refine store_au ?_ | refine Any.mk (fun _ => ?_) | refine Both.mk ?_ ?_)); all_goals (try (conv => whnf))
      all_goals exact Done.mk GivesX.no
  · rw [if_neg (fun h => hi h.1)]
    refine ret_vc tab_ok Tryz.func95 rfl rfl ?_
    repeat' ((try (conv => whnf)); (first | refine CallVC.val (fun w2 h2 => node_no hi w2) ?_ | refine Need.au ?_ | (refine Split.mk (fun hsplit => ?_) (fun hsplit => ?_) <;> (try simp only [List.cons.injEq, and_true, true_and, not_true_eq_false, not_false_eq_true] at hsplit) <;> try (exfalso; omega)) | refine Pick.au ?_ | refine store_au ?_ | refine Any.mk (fun _ => ?_) | refine Both.mk ?_ ?_)); all_goals (try (conv => whnf))
    all_goals exact Done.mk GivesX.no
theorem next_r (A : Option Addr) (k : List B8) (ck : Nat) (s : ByteArray) (hs : s.size ≤ 140737488355328) (hck : k.length ≤ ck) (w : World) (hA : At w A (k.map b8)) :
    Ret Tryz.prog 74 [.slice A k.length ck, .string s] w (GivesX (nextOf k s).1 (nextOf k s).2) := by
  unfold nextOf
  by_cases h : k.length = 16
  · rw [if_pos h]
    refine ret_vc tab_ok Tryz.func74 rfl rfl ?_
    repeat' ((try (conv => whnf)); (first | (refine CallVC.givesX (fun w2 h2 => key_r A k ck s none [] 0 hck hs (by decide) w2 (hA.here h2 (fun _ _ => by simp)) At.nil) (fun A' c' E hl hO => ?_)) | refine Need.au ?_ | (refine Split.mk (fun hsplit => ?_) (fun hsplit => ?_) <;> (try simp only [List.cons.injEq, and_true, true_and, not_true_eq_false, not_false_eq_true] at hsplit) <;> try (exfalso; omega)) | refine Pick.au ?_ | refine store_au ?_ | refine Any.mk (fun _ => ?_) | refine Both.mk ?_ ?_)); all_goals (try (conv => whnf))
    exact Done.mk ⟨_, _, _, rfl, hl, hO, List.sublist_append_left _ _⟩
  · rw [if_neg h]
    refine ret_vc tab_ok Tryz.func74 rfl rfl ?_
    repeat' ((try (conv => whnf)); (first | refine Need.au ?_ | (refine Split.mk (fun hsplit => ?_) (fun hsplit => ?_) <;> (try simp only [List.cons.injEq, and_true, true_and, not_true_eq_false, not_false_eq_true] at hsplit) <;> try (exfalso; omega)) | refine Pick.au ?_ | refine store_au ?_ | refine Any.mk (fun _ => ?_) | refine Both.mk ?_ ?_)); all_goals (try (conv => whnf))
    all_goals exact Done.mk GivesX.no
theorem mackey_r (A : Option Addr) (k : List B8) (ck : Nat) (hck : k.length ≤ ck) (w : World) (hA : At w A (k.map b8)) :
    Ret Tryz.prog 41 [.slice A k.length ck] w (GivesX (nextOf k sMac).1 (nextOf k sMac).2) := by
  refine ret_vc tab_ok Tryz.func41 rfl rfl ?_
  repeat' ((try (conv => whnf)); (first | (refine CallVC.givesX (fun w2 h2 => next_r A k ck sMac (by decide) hck w2 (hA.here h2 (fun _ _ => by simp))) (fun A' c' E hl hO => ?_)) | refine Need.au ?_ | (refine Split.mk (fun hsplit => ?_) (fun hsplit => ?_) <;> (try simp only [List.cons.injEq, and_true, true_and, not_true_eq_false, not_false_eq_true] at hsplit) <;> try (exfalso; omega)) | refine Pick.au ?_ | refine store_au ?_ | refine Any.mk (fun _ => ?_) | refine Both.mk ?_ ?_)); all_goals (try (conv => whnf))
  exact Done.mk ⟨_, _, _, rfl, hl, hO, List.sublist_append_left _ _⟩
theorem rnode_v (i : Int) (w : World) : Val Tryz.prog 102 [.int .i64 i] w (.bool (decide (0 ≤ i ∧ i < 8))) := by
  refine val_vc tab_ok Tryz.func102 rfl rfl ?_
  repeat' ((try (conv => whnf)); (first | refine Need.au ?_ | (refine Split.mk (fun hsplit => ?_) (fun hsplit => ?_) <;> (try simp only [List.cons.injEq, and_true, true_and, not_true_eq_false, not_false_eq_true] at hsplit) <;> try (exfalso; omega)) | refine Pick.au ?_ | refine store_au ?_ | refine Any.mk (fun _ => ?_) | refine Both.mk ?_ ?_)); all_goals (try (conv => whnf))
  · rw [decide_eq_true (by omega)]; exact Done.mk rfl
  · rw [decide_eq_false (by omega)]; exact Done.mk rfl
  · rw [decide_eq_false (by omega)]; exact Done.mk rfl
theorem rnode_yes {i : Int} (h : 0 ≤ i ∧ i < 8) (w : World) : Val Tryz.prog 102 [.int .i64 i] w (.bool true) := decide_eq_true h ▸ rnode_v i w
theorem rnode_no {i : Int} (h : ¬ (0 ≤ i ∧ i < 8)) (w : World) : Val Tryz.prog 102 [.int .i64 i] w (.bool false) := decide_eq_false h ▸ rnode_v i w
theorem rpair_r (A : Option Addr) (m : List B8) (ck : Nat) (i j : Int) (hck : m.length ≤ ck) (w : World) (hA : At w A (m.map b8)) :
    Ret Tryz.prog 71 [.slice A m.length ck, .int .i64 i, .int .i64 j] w (GivesX (pairOf m i j).1 (pairOf m i j).2) := by
  unfold pairOf
  by_cases hi : 0 ≤ i ∧ i < 8
  · by_cases hj : 0 ≤ j ∧ j < 8
    · by_cases hij : i = j
      · rw [if_neg (by omega)]
        refine ret_vc tab_ok Tryz.func71 rfl rfl ?_
        repeat' ((try (conv => whnf)); (first | refine CallVC.val (fun w2 h2 => rnode_yes hi w2) ?_ | refine CallVC.val (fun w2 h2 => rnode_yes hj w2) ?_ | refine Need.au ?_ | (refine Split.mk (fun hsplit => ?_) (fun hsplit => ?_) <;> (try simp only [List.cons.injEq, and_true, true_and, not_true_eq_false, not_false_eq_true] at hsplit) <;> try (exfalso; omega)) | refine Pick.au ?_ | refine store_au ?_ | refine Any.mk (fun _ => ?_) | refine Both.mk ?_ ?_)); all_goals (try (conv => whnf))
        all_goals exact Done.mk GivesX.no
      · rw [if_pos ⟨hi, hj, hij⟩]
        refine ret_vc tab_ok Tryz.func71 rfl rfl ?_
        repeat' ((try (conv => whnf)); (first | refine CallVC.val (fun w2 h2 => rnode_yes hi w2) ?_ | refine CallVC.val (fun w2 h2 => rnode_yes hj w2) ?_ | refine Pick.mk _ (conv_i64_64 _) ?_ | (refine CallVC.givesX (fun w2 h2 => rkey_r A m ck sPair _ [BitVec.ofInt 64 (min i j), BitVec.ofInt 64 (max i j)] 2 hck (by decide) (by show 2 ≤ _; decide) w2 (hA.here h2 (fun _ _ => by simp)) (at_ent (by repeat (first | exact List.Mem.head _ | refine List.Mem.tail _ ?_)) h2)) (fun A' c' E hl hO => ?_)) | refine Need.au ?_ | (refine Split.mk (fun hsplit => ?_) (fun hsplit => ?_) <;> (try simp only [List.cons.injEq, and_true, true_and, not_true_eq_false, not_false_eq_true] at hsplit) <;> try (exfalso; omega)) | refine Pick.au ?_ | refine store_au ?_ | refine Any.mk (fun _ => ?_) | refine Both.mk ?_ ?_)); all_goals (try (conv => whnf))
        exact Done.mk ⟨_, _, _, rfl, hl, hO, List.sublist_append_left _ _⟩
    · rw [if_neg (fun h => hj h.2.1)]
      refine ret_vc tab_ok Tryz.func71 rfl rfl ?_
      repeat' ((try (conv => whnf)); (first | refine CallVC.val (fun w2 h2 => rnode_yes hi w2) ?_ | refine CallVC.val (fun w2 h2 => rnode_no hj w2) ?_ | refine Need.au ?_ | (refine Split.mk (fun hsplit => ?_) (fun hsplit => ?_) <;> (try simp only [List.cons.injEq, and_true, true_and, not_true_eq_false, not_false_eq_true] at hsplit) <;> try (exfalso; omega)) | refine Pick.au ?_ | refine store_au ?_ | refine Any.mk (fun _ => ?_) | refine Both.mk ?_ ?_)); all_goals (try (conv => whnf))
      all_goals exact Done.mk GivesX.no
  · rw [if_neg (fun h => hi h.1)]
    refine ret_vc tab_ok Tryz.func71 rfl rfl ?_
    repeat' ((try (conv => whnf)); (first | refine CallVC.val (fun w2 h2 => rnode_no hi w2) ?_ | refine Need.au ?_ | (refine Split.mk (fun hsplit => ?_) (fun hsplit => ?_) <;> (try simp only [List.cons.injEq, and_true, true_and, not_true_eq_false, not_false_eq_true] at hsplit) <;> try (exfalso; omega)) | refine Pick.au ?_ | refine store_au ?_ | refine Any.mk (fun _ => ?_) | refine Both.mk ?_ ?_)); all_goals (try (conv => whnf))
    all_goals exact Done.mk GivesX.no
theorem rmackey_r (A : Option Addr) (k : List B8) (ck : Nat) (hck : k.length ≤ ck) (w : World) (hA : At w A (k.map b8)) :
    Ret Tryz.prog 44 [.slice A k.length ck] w (GivesX (nextOf k sMac).1 (nextOf k sMac).2) := by
  unfold nextOf
  by_cases h : k.length = 16
  · rw [if_pos h]
    refine ret_vc tab_ok Tryz.func44 rfl rfl ?_
    repeat' ((try (conv => whnf)); (first | (refine CallVC.givesX (fun w2 h2 => rkey_r A k ck sMac none [] 0 hck (by decide) (by decide) w2 (hA.here h2 (fun _ _ => by simp)) At.nil) (fun A' c' E hl hO => ?_)) | refine Need.au ?_ | (refine Split.mk (fun hsplit => ?_) (fun hsplit => ?_) <;> (try simp only [List.cons.injEq, and_true, true_and, not_true_eq_false, not_false_eq_true] at hsplit) <;> try (exfalso; omega)) | refine Pick.au ?_ | refine store_au ?_ | refine Any.mk (fun _ => ?_) | refine Both.mk ?_ ?_)); all_goals (try (conv => whnf))
    exact Done.mk ⟨_, _, _, rfl, hl, hO, List.sublist_append_left _ _⟩
  · rw [if_neg h]
    refine ret_vc tab_ok Tryz.func44 rfl rfl ?_
    repeat' ((try (conv => whnf)); (first | refine Need.au ?_ | (refine Split.mk (fun hsplit => ?_) (fun hsplit => ?_) <;> (try simp only [List.cons.injEq, and_true, true_and, not_true_eq_false, not_false_eq_true] at hsplit) <;> try (exfalso; omega)) | refine Pick.au ?_ | refine store_au ?_ | refine Any.mk (fun _ => ?_) | refine Both.mk ?_ ?_)); all_goals (try (conv => whnf))
    all_goals exact Done.mk GivesX.no
end Go.Proofs.YtnlheljpagpiiaaGreat
