/-
  Expand for every length; labels; in the program and in the document.
-/
import Derived.Test.YtnlheljpagpiiaaGreatKe
set_option linter.unusedVariables false
set_option linter.unusedSimpArgs false
set_option maxRecDepth 100000
set_option maxHeartbeats 8000000
namespace Go.Proofs.YtnlheljpagpiiaaGreat
open Go
attribute [local irreducible] bitsOf shlOf shrOf
/-- A row of the call's own or none, beside a number. -/
structure GivesX (xs : List B8) (e : Int) (v : Value) (hs : Hp) : Prop where wrap ::
  raw : ∃ (A : Option Addr) (c : Nat) (E : Hp), v = .tuple #[.slice A xs.length c, .int .i64 e] ∧ xs.length ≤ c ∧ Own A xs c E ∧ E.Sublist hs
theorem GivesO.toX {xs : List B8} {v : Value} {hs : Hp} (h : GivesO xs v hs) : GivesX xs 0 v hs := ⟨h.raw⟩
theorem GivesX.no {e : Int} {hs : Hp} : GivesX [] e (.tuple #[.slice none 0 0, .int .i64 e]) hs := ⟨none, 0, [], rfl, Nat.le_refl _, Own.none, List.nil_sublist _⟩
theorem Ret.mono {P : Program} {f : Nat} {args : List Value} {w : World} {K K' : Value → Hp → Prop} (h : Ret P f args w K) (hk : ∀ v hs, K v hs → K' v hs) : Ret P f args w K' := ⟨h.calls.mono (Post.mono hk)⟩
theorem CallVC.givesX {G : Cx} {hs : Hp} {f : Nat} {args : List Value} {K : Value → Hp → Prop} {xs : List B8} {e : Int} (hc : ∀ w, St G hs w → Ret G.P f args w (GivesX xs e))
    (hk : ∀ A c E, xs.length ≤ c → Own A xs c E → K (.tuple #[.slice A xs.length c, .int .i64 e]) (E ++ hs)) : CallVC G hs f args K :=
  CallVC.ofW hc fun v hs2 ⟨A, c, E, hv, hl, hO, hsub⟩ => ⟨E, hsub, by subst hv; exact hk A c E hl hO⟩
/-- Expand's answer. -/
def expandX (key info : List B8) (n : Int) : List B8 × Int := if n < 0 ∨ 8160 < n then ([], 1) else if 1000 < info.length ∨ 1048576 < key.length then ([], 2) else (expand key info n.toNat, 0)
theorem expandX_r (A : Option Addr) (key : List B8) (ck : Nat) (B : Option Addr) (info : List B8) (cb : Nat) (n : Int) (hck : key.length ≤ ck) (hcb : info.length ≤ cb) (w : World) (hA : At w A (key.map b8)) (hB : At w B (info.map b8)) :
    Ret Tryz.prog 140 [.slice A key.length ck, .slice B info.length cb, .int .i64 n] w (GivesX (expandX key info n).1 (expandX key info n).2) := by
  unfold expandX
  by_cases h1 : n < 0 ∨ 8160 < n
  · rw [if_pos h1]
    refine ret_marks Tryz.func140 rfl rfl ?_
    intro a hf hw
    refine chain_sound tab_ok 2 _ _ [] _ _ (K := fun _ _ => False) (X := fun _ _ _ => False) (R := retK ⟨Tryz.prog, w, []⟩ tab Tryz.f140.results.toList fun v hs => Done (GivesX [] 1 v hs)) ?_ (fun _ _ _ _ h => h.elim) (fun _ _ _ _ _ h => h.elim) (fun env hs a w hk hf hw => ahead_ret tab_ok hk hf hw) hf hw
    repeat' ((try (conv => whnf)); (first | refine Pick.mk pl140_12 (by decide +kernel) ?_ | refine Need.au ?_ | (refine Split.mk (fun hsplit => ?_) (fun hsplit => ?_) <;> (try simp only [List.cons.injEq, and_true, true_and, not_true_eq_false, not_false_eq_true] at hsplit) <;> try (exfalso; omega)) | refine Pick.au ?_ | refine store_au ?_ | refine Any.mk (fun _ => ?_) | refine Both.mk ?_ ?_)); all_goals (try (conv => whnf))
    all_goals exact Done.mk GivesX.no
  · rw [if_neg h1]
    by_cases h2 : 1000 < info.length ∨ 1048576 < key.length
    · rw [if_pos h2]
      refine ret_marks Tryz.func140 rfl rfl ?_
      intro a hf hw
      refine chain_sound tab_ok 2 _ _ [] _ _ (K := fun _ _ => False) (X := fun _ _ _ => False) (R := retK ⟨Tryz.prog, w, []⟩ tab Tryz.f140.results.toList fun v hs => Done (GivesX [] 2 v hs)) ?_ (fun _ _ _ _ h => h.elim) (fun _ _ _ _ _ h => h.elim) (fun env hs a w hk hf hw => ahead_ret tab_ok hk hf hw) hf hw
      repeat' ((try (conv => whnf)); (first | refine Pick.mk pl140_12 (by decide +kernel) ?_ | refine Need.au ?_ | (refine Split.mk (fun hsplit => ?_) (fun hsplit => ?_) <;> (try simp only [List.cons.injEq, and_true, true_and, not_true_eq_false, not_false_eq_true] at hsplit) <;> try (exfalso; omega)) | refine Pick.au ?_ | refine store_au ?_ | refine Any.mk (fun _ => ?_) | refine Both.mk ?_ ?_)); all_goals (try (conv => whnf))
      all_goals exact Done.mk GivesX.no
    · rw [if_neg h2]
      exact (expand_r A key ck B info cb n (by omega) (by omega) hck (by omega) hcb w hA hB).mono fun _ _ h => h.toX
theorem rexpandX_r (A : Option Addr) (key : List B8) (ck : Nat) (B : Option Addr) (info : List B8) (cb : Nat) (n : Int) (hck : key.length ≤ ck) (hcb : info.length ≤ cb) (w : World) (hA : At w A (key.map b8)) (hB : At w B (info.map b8)) :
    Ret Tryz.prog 111 [.slice A key.length ck, .slice B info.length cb, .int .i64 n] w (GivesX (expandX key info n).1 (expandX key info n).2) := by
  unfold expandX
  by_cases h1 : n < 0 ∨ 8160 < n
  · rw [if_pos h1]
    refine ret_vc tab_ok Tryz.func111 rfl rfl ?_
    repeat' ((try (conv => whnf)); (first | refine Need.au ?_ | (refine Split.mk (fun hsplit => ?_) (fun hsplit => ?_) <;> (try simp only [List.cons.injEq, and_true, true_and, not_true_eq_false, not_false_eq_true] at hsplit) <;> try (exfalso; omega)) | refine Pick.au ?_ | refine store_au ?_ | refine Any.mk (fun _ => ?_) | refine Both.mk ?_ ?_)); all_goals (try (conv => whnf))
    all_goals exact Done.mk GivesX.no
  · rw [if_neg h1]
    by_cases h2 : 1000 < info.length ∨ 1048576 < key.length
    · rw [if_pos h2]
      refine ret_vc tab_ok Tryz.func111 rfl rfl ?_
      repeat' ((try (conv => whnf)); (first | refine Need.au ?_ | (refine Split.mk (fun hsplit => ?_) (fun hsplit => ?_) <;> (try simp only [List.cons.injEq, and_true, true_and, not_true_eq_false, not_false_eq_true] at hsplit) <;> try (exfalso; omega)) | refine Pick.au ?_ | refine store_au ?_ | refine Any.mk (fun _ => ?_) | refine Both.mk ?_ ?_)); all_goals (try (conv => whnf))
      all_goals exact Done.mk GivesX.no
    · rw [if_neg h2]
      exact (rexpand_r A key ck B info cb n (by omega) (by omega) hck (by omega) w hA hB).mono fun _ _ h => h.toX

/-! ### Labels -/
def strB (s : ByteArray) : List B8 := s.data.toList.map fun b => b.toBitVec
theorem strB_len (s : ByteArray) : (strB s).length = s.size := by unfold strB; rw [List.length_map]; rfl
theorem byteCells_b8 (s : ByteArray) : byteCells s = (strB s).map b8 := by
  unfold byteCells strB
  rw [List.map_map]
  rfl
def letter (c : B8) : Bool := decide (97 ≤ c.toNat ∧ c.toNat ≤ 122)
def labelOk (l : List B8) : Bool := l.all letter && decide (1 ≤ l.length ∧ l.length ≤ 64)
theorem all_step {l : List B8} {i : Nat} (hi : i < l.length) (h : (l.take i).all letter = true) (hc : 97 ≤ (l.getD i 0).toNat ∧ (l.getD i 0).toNat ≤ 122) : (l.take (i + 1)).all letter = true := by
  rw [take_step _ _ hi, List.all_append, h]
  rw [List.getD_eq_getElem?_getD, List.getElem?_eq_getElem hi] at hc
  simp only [List.all_cons, List.all_nil, Bool.and_true, Bool.true_and, letter]
  exact decide_eq_true hc
theorem all_not {l : List B8} {i : Nat} (hi : i < l.length) (hc : ¬ (97 ≤ (l.getD i 0).toNat ∧ (l.getD i 0).toNat ≤ 122)) : labelOk l = false := by
  unfold labelOk
  rw [Bool.and_eq_false_iff]
  left
  rw [List.all_eq_false]
  refine ⟨l[i], List.getElem_mem hi, ?_⟩
  rw [List.getD_eq_getElem?_getD, List.getElem?_eq_getElem hi] at hc
  unfold letter
  rw [decide_eq_true_eq]
  exact hc
theorem label_all {l : List B8} (h : l.all letter = true) : labelOk l = decide (1 ≤ l.length ∧ l.length ≤ 64) := by unfold labelOk; rw [h, Bool.true_and]
theorem str_getD (s : ByteArray) (i : Nat) : ((s.data.toList.getD i 0).toNat : Int) = (((strB s).getD i 0).toNat : Int) := by
  unfold strB
  rw [List.getD_eq_getElem?_getD, List.getD_eq_getElem?_getD, List.getElem?_map]
  cases s.data.toList[i]? <;> rfl
theorem named_v (s : ByteArray) (hs : s.size ≤ 140737488355328) (w : World) : Val Tryz.prog 138 [.string s] w (.bool (labelOk (strB s))) := by
  have hl := strB_len s
  refine val_vc tab_ok Tryz.func138 rfl rfl ?_
  repeat' ((try (conv => whnf)); (first | (intro hcap; rw [byteCells_b8]) | refine Need.au ?_ | (refine Split.mk (fun hsplit => ?_) (fun hsplit => ?_) <;> (try simp only [List.cons.injEq, and_true, true_and, not_true_eq_false, not_false_eq_true] at hsplit) <;> try (exfalso; omega)) | refine Pick.au ?_ | refine store_au ?_ | refine Any.mk (fun _ => ?_) | refine Both.mk ?_ ?_)); all_goals (try (conv => whnf))
  rename_i b cap
  refine LoopVC.mk (fun n env hs => ∃ (i : Nat) (x : Int), x = i ∧ i + n = s.size ∧ ((strB s).take i).all letter = true ∧
    env = [(0, .string s), (6, .slice (some ⟨b, 0, none⟩) s.size cap), (7, .int .i64 s.size), (8, .int .i64 x)] ∧ hs = [⟨b, (strB s).map b8 ++ List.replicate (cap - s.size) (.int .u8 0), 5, (cap, cap + 1)⟩]) s.size
    (Weak.mk (Sub.cons rfl (Sub.cons rfl (Sub.cons rfl (Sub.cons rfl Sub.nil)))) (List.Sublist.refl _) ⟨0, 0, rfl, by omega, rfl, rfl, rfl⟩) ?_
  rintro n env hs ⟨i, _, rfl, hi, hall, rfl, rfl⟩
  repeat' ((try (conv => whnf)); (first | refine Pick.mk _ (cell_br (by repeat (first | exact List.Mem.head _ | refine List.Mem.tail _ ?_)) (by omega)) ?_ | refine Need.au ?_ | (refine Split.mk (fun hsplit => ?_) (fun hsplit => ?_) <;> (try simp only [List.cons.injEq, and_true, true_and, not_true_eq_false, not_false_eq_true] at hsplit) <;> try (exfalso; omega)) | refine Pick.au ?_ | refine store_au ?_ | refine Any.mk (fun _ => ?_) | refine Both.mk ?_ ?_)); all_goals (try (conv => whnf))
  · rw [all_not (l := strB s) (i := i) (by omega) (fun h => by have := h.1; simp only [Int.toNat_natCast] at hsplit; omega)]
    exact Done.mk rfl
  · rw [all_not (l := strB s) (i := i) (by omega) (fun h => by have := h.2; simp only [Int.toNat_natCast] at hsplit; omega)]
    exact Done.mk rfl
  · refine again (n - 1) (by omega) (Sub.cons rfl (Sub.cons rfl (Sub.cons rfl (Sub.cons rfl Sub.nil)))) (List.Sublist.refl _) ⟨i + 1, _, by omega, by omega, ?_, rfl, rfl⟩
    rename_i h1 h2
    simp only [Int.toNat_natCast] at hsplit h2
    exact all_step (by omega) hall ⟨by omega, by omega⟩
  all_goals
    rw [List.take_of_length_le (by omega)] at hall
    rw [label_all hall]
  · rw [decide_eq_true (by omega)]
    exact Done.mk rfl
  · rw [decide_eq_false (by omega)]
    exact Done.mk rfl
  · rw [decide_eq_false (by omega)]
    exact Done.mk rfl
theorem label_v (s : ByteArray) (hs : s.size ≤ 140737488355328) (w : World) : Val Tryz.prog 109 [.string s] w (.bool (labelOk (strB s))) := by
  have hl := strB_len s
  refine val_vc tab_ok Tryz.func109 rfl rfl ?_
  repeat' ((try (conv => whnf)); (first | refine Need.au ?_ | (refine Split.mk (fun hsplit => ?_) (fun hsplit => ?_) <;> (try simp only [List.cons.injEq, and_true, true_and, not_true_eq_false, not_false_eq_true] at hsplit) <;> try (exfalso; omega)) | refine Pick.au ?_ | refine store_au ?_ | refine Any.mk (fun _ => ?_) | refine Both.mk ?_ ?_)); all_goals (try (conv => whnf))
  refine LoopVC.mk (fun n env hs => ∃ (i : Nat) (x : Int), x = i ∧ i + n = s.size ∧ ((strB s).take i).all letter = true ∧
    env = [(0, .string s), (3, .int .i64 x)] ∧ hs = []) s.size
    (Weak.mk (Sub.cons rfl (Sub.cons rfl Sub.nil)) (List.Sublist.refl _) ⟨0, 0, rfl, by omega, rfl, rfl, rfl⟩) ?_
  rintro n env hs ⟨i, _, rfl, hi, hall, rfl, rfl⟩
  repeat' ((try (conv => whnf)); (first | refine Need.au ?_ | (refine Split.mk (fun hsplit => ?_) (fun hsplit => ?_) <;> (try simp only [List.cons.injEq, and_true, true_and, not_true_eq_false, not_false_eq_true] at hsplit) <;> try (exfalso; omega)) | refine Pick.au ?_ | refine store_au ?_ | refine Any.mk (fun _ => ?_) | refine Both.mk ?_ ?_)); all_goals (try (conv => whnf))
  · rw [all_not (l := strB s) (i := i) (by omega) (fun h => by have := h.1; rw [Int.toNat_natCast, str_getD] at hsplit; omega)]
    exact Done.mk rfl
  · rw [all_not (l := strB s) (i := i) (by omega) (fun h => by have := h.2; rw [Int.toNat_natCast, str_getD] at hsplit; omega)]
    exact Done.mk rfl
  · refine again (n - 1) (by omega) (Sub.cons rfl (Sub.cons rfl Sub.nil)) (List.Sublist.refl _) ⟨i + 1, _, by omega, by omega, ?_, rfl, rfl⟩
    rename_i h1 h2
    rw [Int.toNat_natCast, str_getD] at hsplit h2
    exact all_step (by omega) hall ⟨by omega, by omega⟩
  all_goals
    rw [List.take_of_length_le (by omega)] at hall
    rw [label_all hall]
  · rw [decide_eq_true (by omega)]
    exact Done.mk rfl
  · rw [decide_eq_false (by omega)]
    exact Done.mk rfl
  · rw [decide_eq_false (by omega)]
    exact Done.mk rfl
end Go.Proofs.YtnlheljpagpiiaaGreat
