/-
  Keys of nodes, steps of keys, tags under a salt; in the program and in the document; every input.
-/
import Derived.Test.YtamibdabhgnfcaaKg
set_option linter.unusedVariables false
set_option linter.unusedSimpArgs false
set_option maxRecDepth 100000
set_option maxHeartbeats 8000000
namespace Go.Proofs.Ytamibdabhgnfcaa
open Go
attribute [local irreducible] bitsOf shlOf shrOf
theorem conv_i64_64 (x : Int) : ((BitVec.ofInt 64 x).toNat : Int) = IntKind.u64.wrap x := by
  simp [IntKind.wrap, IntKind.signed, IntKind.bits, BitVec.toNat_ofInt]
  omega
theorem givesE_toX {xs : List B8} {v : Value} {hs : Hp} (h : GivesE 5 (xs.map b8) (.int .i64 0) v hs) : GivesX xs 0 v hs := by
  obtain ⟨u, rfl, b, r, fr, rfl, hm, hf⟩ := h
  exact ⟨_, _, _, by rw [List.length_map], by rw [List.length_append, List.length_map]; omega, Own.row b xs r fr hf, List.singleton_sublist.2 hm⟩
def sPair : ByteArray := ⟨#[112, 97, 105, 114]⟩
def sOwn : ByteArray := ⟨#[111, 119, 110]⟩
def sChain : ByteArray := ⟨#[99, 104, 97, 105, 110]⟩
def sMac : ByteArray := ⟨#[109, 97, 99]⟩
def pairOf (m : List B8) (i j : Int) : List B8 × Int := if (0 ≤ i ∧ i < 8) ∧ (0 ≤ j ∧ j < 8) ∧ i ≠ j then kdfKey m sPair [BitVec.ofInt 64 (min i j), BitVec.ofInt 64 (max i j)] else ([], 1)
def ownOf (m : List B8) (i : Int) : List B8 × Int := if 0 ≤ i ∧ i < 8 then kdfKey m sOwn [BitVec.ofInt 64 i] else ([], 1)
def nextOf (k : List B8) (s : ByteArray) : List B8 × Int := if k.length = 16 then kdfKey k s [] else ([], 1)
theorem next_r (A : Option Addr) (k : List B8) (ck : Nat) (s : ByteArray) (hs : s.size ≤ 140737488355328) (hck : k.length ≤ ck) (w : World) (hA : At w A (k.map b8)) :
    Ret Try.prog 39 [.slice A k.length ck, .string s] w (GivesX (nextOf k s).1 (nextOf k s).2) := by
  unfold nextOf
  by_cases h : k.length = 16
  · rw [if_pos h]
    refine ret_vc tab_ok Try.func39 rfl rfl ?_
    repeat' ((try (conv => whnf)); (first | (refine CallVC.givesX (fun w2 h2 => key_r A k ck s none [] 0 hck hs (by decide) w2 (hA.here h2 (fun _ _ => by simp)) At.nil) (fun A' c' E hl hO => ?_)) | refine Need.mk (by omega) ?_ | refine Need.mk (by decide +kernel) ?_ | refine Need.mk (by rfl) ?_ | refine Need.mk ⟨rfl, Nat.le_of_ble_eq_true rfl⟩ ?_ | (refine Split.mk (fun hsplit => ?_) (fun hsplit => ?_) <;> (try simp only [List.cons.injEq, and_true, true_and, not_true_eq_false, not_false_eq_true] at hsplit) <;> try (exfalso; omega)) | refine Pick.mk _ (fit_i64 (by omega) (by omega)) ?_ | refine Pick.mk _ (fit_u64 (by omega) (by omega)) ?_ | refine Pick.mk _ (fit_u32 (by omega) (by omega)) ?_ | refine Pick.mk _ (fit_u8 (by omega) (by omega)) ?_ | refine Pick.mk _ (quo_i64 (by omega) (by omega) (by omega)) ?_ | refine Pick.mk _ (rem_pos (by omega)) ?_ | refine Pick.mk _ (cellIs_at (by repeat (first | exact List.Mem.head _ | refine List.Mem.tail _ ?_)) rfl) ?_ | refine Pick.mk _ (cellIs_old (by assumption) (by simp)) ?_ | refine Pick.mk _ (pick_whole (by repeat (first | exact List.Mem.head _ | refine List.Mem.tail _ ?_)) (by rfl)) ?_ | refine Pick.mk _ (pick_part (by repeat (first | exact List.Mem.head _ | refine List.Mem.tail _ ?_)) (by rfl)) ?_ | refine store_at (by repeat (first | exact Upd.head _ | apply Upd.tail)) soft0 (by rfl) (by rfl) ?_ | refine Any.mk (fun _ => ?_) | refine Need.mk (List.Sublist.cons _ (List.Sublist.refl _)) ?_ | refine Need.mk (List.Sublist.refl _) ?_ | refine Both.mk ?_ ?_)); all_goals (try (conv => whnf))
    exact Done.mk ⟨_, _, _, rfl, hl, hO, List.sublist_append_left _ _⟩
  · rw [if_neg h]
    refine ret_vc tab_ok Try.func39 rfl rfl ?_
    repeat' ((try (conv => whnf)); (first | refine Need.mk (by omega) ?_ | refine Need.mk (by decide +kernel) ?_ | refine Need.mk (by rfl) ?_ | refine Need.mk ⟨rfl, Nat.le_of_ble_eq_true rfl⟩ ?_ | (refine Split.mk (fun hsplit => ?_) (fun hsplit => ?_) <;> (try simp only [List.cons.injEq, and_true, true_and, not_true_eq_false, not_false_eq_true] at hsplit) <;> try (exfalso; omega)) | refine Pick.mk _ (fit_i64 (by omega) (by omega)) ?_ | refine Pick.mk _ (fit_u64 (by omega) (by omega)) ?_ | refine Pick.mk _ (fit_u32 (by omega) (by omega)) ?_ | refine Pick.mk _ (fit_u8 (by omega) (by omega)) ?_ | refine Pick.mk _ (quo_i64 (by omega) (by omega) (by omega)) ?_ | refine Pick.mk _ (rem_pos (by omega)) ?_ | refine Pick.mk _ (cellIs_at (by repeat (first | exact List.Mem.head _ | refine List.Mem.tail _ ?_)) rfl) ?_ | refine Pick.mk _ (cellIs_old (by assumption) (by simp)) ?_ | refine Pick.mk _ (pick_whole (by repeat (first | exact List.Mem.head _ | refine List.Mem.tail _ ?_)) (by rfl)) ?_ | refine Pick.mk _ (pick_part (by repeat (first | exact List.Mem.head _ | refine List.Mem.tail _ ?_)) (by rfl)) ?_ | refine store_at (by repeat (first | exact Upd.head _ | apply Upd.tail)) soft0 (by rfl) (by rfl) ?_ | refine Any.mk (fun _ => ?_) | refine Need.mk (List.Sublist.cons _ (List.Sublist.refl _)) ?_ | refine Need.mk (List.Sublist.refl _) ?_ | refine Both.mk ?_ ?_)); all_goals (try (conv => whnf))
    all_goals exact Done.mk GivesX.no
theorem step_r (A : Option Addr) (k : List B8) (ck : Nat) (hck : k.length ≤ ck) (w : World) (hA : At w A (k.map b8)) :
    Ret Try.prog 22 [.slice A k.length ck] w (GivesX (nextOf k sChain).1 (nextOf k sChain).2) := by
  refine ret_vc tab_ok Try.func22 rfl rfl ?_
  repeat' ((try (conv => whnf)); (first | (refine CallVC.givesX (fun w2 h2 => next_r A k ck sChain (by decide) hck w2 (hA.here h2 (fun _ _ => by simp))) (fun A' c' E hl hO => ?_)) | refine Need.mk (by omega) ?_ | refine Need.mk (by decide +kernel) ?_ | refine Need.mk (by rfl) ?_ | refine Need.mk ⟨rfl, Nat.le_of_ble_eq_true rfl⟩ ?_ | (refine Split.mk (fun hsplit => ?_) (fun hsplit => ?_) <;> (try simp only [List.cons.injEq, and_true, true_and, not_true_eq_false, not_false_eq_true] at hsplit) <;> try (exfalso; omega)) | refine Pick.mk _ (fit_i64 (by omega) (by omega)) ?_ | refine Pick.mk _ (fit_u64 (by omega) (by omega)) ?_ | refine Pick.mk _ (fit_u32 (by omega) (by omega)) ?_ | refine Pick.mk _ (fit_u8 (by omega) (by omega)) ?_ | refine Pick.mk _ (quo_i64 (by omega) (by omega) (by omega)) ?_ | refine Pick.mk _ (rem_pos (by omega)) ?_ | refine Pick.mk _ (cellIs_at (by repeat (first | exact List.Mem.head _ | refine List.Mem.tail _ ?_)) rfl) ?_ | refine Pick.mk _ (cellIs_old (by assumption) (by simp)) ?_ | refine Pick.mk _ (pick_whole (by repeat (first | exact List.Mem.head _ | refine List.Mem.tail _ ?_)) (by rfl)) ?_ | refine Pick.mk _ (pick_part (by repeat (first | exact List.Mem.head _ | refine List.Mem.tail _ ?_)) (by rfl)) ?_ | refine store_at (by repeat (first | exact Upd.head _ | apply Upd.tail)) soft0 (by rfl) (by rfl) ?_ | refine Any.mk (fun _ => ?_) | refine Need.mk (List.Sublist.cons _ (List.Sublist.refl _)) ?_ | refine Need.mk (List.Sublist.refl _) ?_ | refine Both.mk ?_ ?_)); all_goals (try (conv => whnf))
  exact Done.mk ⟨_, _, _, rfl, hl, hO, List.sublist_append_left _ _⟩
theorem rstep_r (A : Option Addr) (k : List B8) (ck : Nat) (hck : k.length ≤ ck) (w : World) (hA : At w A (k.map b8)) :
    Ret Try.prog 35 [.slice A k.length ck] w (GivesX (nextOf k sChain).1 (nextOf k sChain).2) := by
  unfold nextOf
  by_cases h : k.length = 16
  · rw [if_pos h]
    refine ret_vc tab_ok Try.func35 rfl rfl ?_
    repeat' ((try (conv => whnf)); (first | (refine CallVC.givesX (fun w2 h2 => rkey_r A k ck sChain none [] 0 hck (by decide) (by decide) w2 (hA.here h2 (fun _ _ => by simp)) At.nil) (fun A' c' E hl hO => ?_)) | refine Need.mk (by omega) ?_ | refine Need.mk (by decide +kernel) ?_ | refine Need.mk (by rfl) ?_ | refine Need.mk ⟨rfl, Nat.le_of_ble_eq_true rfl⟩ ?_ | (refine Split.mk (fun hsplit => ?_) (fun hsplit => ?_) <;> (try simp only [List.cons.injEq, and_true, true_and, not_true_eq_false, not_false_eq_true] at hsplit) <;> try (exfalso; omega)) | refine Pick.mk _ (fit_i64 (by omega) (by omega)) ?_ | refine Pick.mk _ (fit_u64 (by omega) (by omega)) ?_ | refine Pick.mk _ (fit_u32 (by omega) (by omega)) ?_ | refine Pick.mk _ (fit_u8 (by omega) (by omega)) ?_ | refine Pick.mk _ (quo_i64 (by omega) (by omega) (by omega)) ?_ | refine Pick.mk _ (rem_pos (by omega)) ?_ | refine Pick.mk _ (cellIs_at (by repeat (first | exact List.Mem.head _ | refine List.Mem.tail _ ?_)) rfl) ?_ | refine Pick.mk _ (cellIs_old (by assumption) (by simp)) ?_ | refine Pick.mk _ (pick_whole (by repeat (first | exact List.Mem.head _ | refine List.Mem.tail _ ?_)) (by rfl)) ?_ | refine Pick.mk _ (pick_part (by repeat (first | exact List.Mem.head _ | refine List.Mem.tail _ ?_)) (by rfl)) ?_ | refine store_at (by repeat (first | exact Upd.head _ | apply Upd.tail)) soft0 (by rfl) (by rfl) ?_ | refine Any.mk (fun _ => ?_) | refine Need.mk (List.Sublist.cons _ (List.Sublist.refl _)) ?_ | refine Need.mk (List.Sublist.refl _) ?_ | refine Both.mk ?_ ?_)); all_goals (try (conv => whnf))
    exact Done.mk ⟨_, _, _, rfl, hl, hO, List.sublist_append_left _ _⟩
  · rw [if_neg h]
    refine ret_vc tab_ok Try.func35 rfl rfl ?_
    repeat' ((try (conv => whnf)); (first | refine Need.mk (by omega) ?_ | refine Need.mk (by decide +kernel) ?_ | refine Need.mk (by rfl) ?_ | refine Need.mk ⟨rfl, Nat.le_of_ble_eq_true rfl⟩ ?_ | (refine Split.mk (fun hsplit => ?_) (fun hsplit => ?_) <;> (try simp only [List.cons.injEq, and_true, true_and, not_true_eq_false, not_false_eq_true] at hsplit) <;> try (exfalso; omega)) | refine Pick.mk _ (fit_i64 (by omega) (by omega)) ?_ | refine Pick.mk _ (fit_u64 (by omega) (by omega)) ?_ | refine Pick.mk _ (fit_u32 (by omega) (by omega)) ?_ | refine Pick.mk _ (fit_u8 (by omega) (by omega)) ?_ | refine Pick.mk _ (quo_i64 (by omega) (by omega) (by omega)) ?_ | refine Pick.mk _ (rem_pos (by omega)) ?_ | refine Pick.mk _ (cellIs_at (by repeat (first | exact List.Mem.head _ | refine List.Mem.tail _ ?_)) rfl) ?_ | refine Pick.mk _ (cellIs_old (by assumption) (by simp)) ?_ | refine Pick.mk _ (pick_whole (by repeat (first | exact List.Mem.head _ | refine List.Mem.tail _ ?_)) (by rfl)) ?_ | refine Pick.mk _ (pick_part (by repeat (first | exact List.Mem.head _ | refine List.Mem.tail _ ?_)) (by rfl)) ?_ | refine store_at (by repeat (first | exact Upd.head _ | apply Upd.tail)) soft0 (by rfl) (by rfl) ?_ | refine Any.mk (fun _ => ?_) | refine Need.mk (List.Sublist.cons _ (List.Sublist.refl _)) ?_ | refine Need.mk (List.Sublist.refl _) ?_ | refine Both.mk ?_ ?_)); all_goals (try (conv => whnf))
    all_goals exact Done.mk GivesX.no
end Go.Proofs.Ytamibdabhgnfcaa
