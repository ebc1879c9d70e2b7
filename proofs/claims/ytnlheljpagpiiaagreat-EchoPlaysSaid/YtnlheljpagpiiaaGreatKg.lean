/-
  Keys for labels and numbers; in the program and in the document; every input.
-/
import Derived.Test.YtnlheljpagpiiaaGreatKf
set_option linter.unusedVariables false
set_option linter.unusedSimpArgs false
set_option maxRecDepth 100000
set_option maxHeartbeats 8000000
namespace Go.Proofs.YtnlheljpagpiiaaGreat
open Go
attribute [local irreducible] bitsOf shlOf shrOf
def infoOf (s : ByteArray) (l : List (BitVec 64)) : List B8 := strB s ++ [0#8] ++ (l.map put64).flatten
/-- Key's answer. -/
def kdfKey (from_ : List B8) (s : ByteArray) (l : List (BitVec 64)) : List B8 × Int :=
  if labelOk (strB s) = false ∨ 16 < l.length then ([], 1) else if 1000 < from_.length then ([], 2) else (expand from_ (infoOf s l) 16, 0)
theorem put64_len (x : BitVec 64) : (put64 x).length = 8 := by rw [← tail8_64]; simp [tail8]
theorem longs_len (l : List (BitVec 64)) : (l.map put64).flatten.length = 8 * l.length := by
  induction l with
  | nil => rfl
  | cons x r ih => rw [List.map_cons, List.flatten_cons, List.length_append, ih, put64_len, List.length_cons]; omega
theorem longs_step (l : List (BitVec 64)) (i : Nat) (hi : i < l.length) : ((l.take (i + 1)).map put64).flatten = ((l.take i).map put64).flatten ++ put64 (l.getD i 0) := by
  rw [take_step _ _ hi, List.map_append, List.flatten_append, List.getD_eq_getElem?_getD, List.getElem?_eq_getElem hi]
  simp
theorem long_arg {G : Cx} {hs : Hp} {a : Addr} {l : List (BitVec 64)} {k : Nat} (h : At G.w0 (some a) (l.map w64)) (hd : a.block ∉ G.fp) (hk : k < l.length) : G.cellIs hs (a.add (k * 1)) (w64 (l.getD k 0)) := by
  rw [Nat.mul_one]
  refine cell_of_at rfl h hd ?_
  rw [List.getElem?_map, List.getElem?_eq_getElem hk, List.getD_eq_getElem?_getD, List.getElem?_eq_getElem hk]
  rfl
theorem key_r (A : Option Addr) (from_ : List B8) (ck : Nat) (s : ByteArray) (L : Option Addr) (l : List (BitVec 64)) (cl : Nat) (hck : from_.length ≤ ck) (hs : s.size ≤ 140737488355328) (hl64 : l.length ≤ 140737488355328) (w : World) (hA : At w A (from_.map b8)) (hL : At w L (l.map w64)) :
    Ret Tryz.prog 105 [.slice A from_.length ck, .string s, .slice L l.length cl] w (GivesX (kdfKey from_ s l).1 (kdfKey from_ s l).2) := by
  unfold kdfKey
  have hsl := strB_len s
  cases hok : labelOk (strB s) with
  | false =>
    rw [if_pos (.inl rfl)]
    refine ret_vc tab_ok Tryz.func105 rfl rfl ?_
    repeat' ((try (conv => whnf)); (first | refine CallVC.val (fun w2 h2 => hok ▸ named_v s hs w2) ?_ | refine Need.au ?_ | (refine Split.mk (fun hsplit => ?_) (fun hsplit => ?_) <;> (try simp only [List.cons.injEq, and_true, true_and, not_true_eq_false, not_false_eq_true] at hsplit) <;> try (exfalso; omega)) | refine Pick.au ?_ | refine store_au ?_ | refine Any.mk (fun _ => ?_) | refine Both.mk ?_ ?_)); all_goals (try (conv => whnf))
    all_goals exact Done.mk GivesX.no
  | true =>
    have hsz : 1 ≤ s.size ∧ s.size ≤ 64 := by
      unfold labelOk at hok
      rw [Bool.and_eq_true, decide_eq_true_eq, hsl] at hok
      exact hok.2
    by_cases h1 : 16 < l.length
    · rw [if_pos (.inr h1)]
      refine ret_vc tab_ok Tryz.func105 rfl rfl ?_
      repeat' ((try (conv => whnf)); (first | refine CallVC.val (fun w2 h2 => hok ▸ named_v s hs w2) ?_ | refine Need.au ?_ | (refine Split.mk (fun hsplit => ?_) (fun hsplit => ?_) <;> (try simp only [List.cons.injEq, and_true, true_and, not_true_eq_false, not_false_eq_true] at hsplit) <;> try (exfalso; omega)) | refine Pick.au ?_ | refine store_au ?_ | refine Any.mk (fun _ => ?_) | refine Both.mk ?_ ?_)); all_goals (try (conv => whnf))
      all_goals exact Done.mk GivesX.no
    rw [if_neg (by simp [h1])]
    by_cases h2 : 1000 < from_.length
    · rw [if_pos h2]
      refine ret_vc tab_ok Tryz.func105 rfl rfl ?_
      repeat' ((try (conv => whnf)); (first | refine CallVC.val (fun w2 h2 => hok ▸ named_v s hs w2) ?_ | refine Need.au ?_ | (refine Split.mk (fun hsplit => ?_) (fun hsplit => ?_) <;> (try simp only [List.cons.injEq, and_true, true_and, not_true_eq_false, not_false_eq_true] at hsplit) <;> try (exfalso; omega)) | refine Pick.au ?_ | refine store_au ?_ | refine Any.mk (fun _ => ?_) | refine Both.mk ?_ ?_)); all_goals (try (conv => whnf))
      all_goals exact Done.mk GivesX.no
    rw [if_neg h2]
    refine ret_vc tab_ok Tryz.func105 rfl rfl ?_
    repeat' ((try (conv => whnf)); (first | refine CallVC.val (fun w2 h2 => hok ▸ named_v s hs w2) ?_ | (intro hcap; rw [byteCells_b8]) | (refine AppendVC.bytes (xs := strB s) (ys := [0#8]) tab_ok apb rfl (by repeat (first | exact Take.head _ | apply Take.tail)) (.inr (by simp; omega)) (by simp; omega) hsl (Holds.own (by repeat (first | exact List.Mem.head _ | refine List.Mem.tail _ ?_)) 0 rfl rfl) (by show (2 * (_ + _) + 192) * 1 ≤ _; omega) (fun b5 r5 fr5 hf5 => ?_)) | refine Need.au ?_ | (refine Split.mk (fun hsplit => ?_) (fun hsplit => ?_) <;> (try simp only [List.cons.injEq, and_true, true_and, not_true_eq_false, not_false_eq_true] at hsplit) <;> try (exfalso; omega)) | refine Pick.au ?_ | refine store_au ?_ | refine Any.mk (fun _ => ?_) | refine Both.mk ?_ ?_)); all_goals (try (conv => whnf))
    have hil : (infoOf s l).length ≤ 1000 := by unfold infoOf; rw [List.length_append, List.length_append, longs_len, hsl]; show s.size + 1 + _ ≤ _; omega
    have hex : expandX from_ (infoOf s l) 16 = (expand from_ (infoOf s l) 16, 0) := by
      unfold expandX
      rw [if_neg (by omega), if_neg (by omega)]
      rfl
    refine LoopVC.mk (fun n env hs => ∃ (i : Nat) (x : Int) (b k cap : Nat) (r : List Value) (fr : Nat × Nat) (xs : List B8), x = i ∧ i + n = l.length ∧ xs = infoOf s (l.take i) ∧ k = xs.length ∧ cap = (xs.map b8 ++ r).length ∧ Soft fr (xs.map b8 ++ r).length ∧
      env = [(0, .slice A from_.length ck), (8, .slice (some ⟨b, 0, none⟩) k cap), (26, .slice L l.length cl), (27, .int .i64 l.length), (28, .int .i64 x)] ∧ hs = [⟨b, xs.map b8 ++ r, 5, fr⟩]) l.length
      (Weak.mk (Sub.cons rfl (Sub.cons rfl (Sub.cons rfl (Sub.cons rfl (Sub.cons rfl (Sub.nil)))))) (List.Sublist.cons_cons _ (List.nil_sublist _)) ⟨0, 0, b5, _, _, r5, fr5, strB s ++ [0#8], rfl, by omega, by simp [infoOf], by rw [List.length_append, hsl]; rfl, rfl, hf5, rfl, rfl⟩) ?_
    rintro n env hs ⟨i, _, b, k, cap, r, fr, xs, rfl, hi, hxs, hk, hcap, hfr, rfl, rfl⟩
    subst hk hcap
    have hxl : xs.length ≤ 1000 := by rw [hxs]; unfold infoOf; rw [List.length_append, List.length_append, longs_len, hsl, List.length_take]; show s.size + 1 + _ ≤ _; omega
    cases L with
    | none =>
      have hl0 : l = [] := by
        cases l with
        | nil => rfl
        | cons x y => obtain ⟨a, ha⟩ := hL.is (by simp); cases ha
      subst hl0
      have hxs2 : xs = infoOf s [] := by rw [hxs]; simp
      subst hxs2
      repeat' ((try (conv => whnf)); (first | exact absurd (show (i : Int) < ((List.length ([] : List (BitVec 64)) : Nat) : Int) by assumption) (by simp) | (refine CallVC.givesX (fun w2 h2 => hex ▸ expandX_r A from_ ck _ (infoOf s []) _ 16 hck (by rw [List.length_append, List.length_map]; omega) w2 (hA.here h2 (fun _ _ => by simp)) (at_pre (by repeat (first | exact List.Mem.head _ | refine List.Mem.tail _ ?_)) h2)) (fun A' c' E hl hO => ?_)) | refine Need.au ?_ | (refine Split.mk (fun hsplit => ?_) (fun hsplit => ?_) <;> (try simp only [List.cons.injEq, and_true, true_and, not_true_eq_false, not_false_eq_true] at hsplit) <;> try (exfalso; omega)) | refine Pick.au ?_ | refine store_au ?_ | refine Any.mk (fun _ => ?_) | refine Both.mk ?_ ?_)); all_goals (try (conv => whnf))
      exact Done.mk ⟨_, _, _, rfl, hl, hO, List.sublist_append_left _ _⟩
    | some la =>
      repeat' ((try (conv => whnf)); (first | refine Pick.mk _ (long_arg hL (by simp) (by omega)) ?_ | (refine CallVC.givesB (xs := xs ++ put64 (l.getD i 0)) (fun w2 h2 => putlong_r _ xs _ (l.getD i 0) (by omega) w2 (at_pre (by repeat (first | exact List.Mem.head _ | refine List.Mem.tail _ ?_)) h2)) (fun b6 r6 fr6 hf6 => ?_)) | (refine CallVC.givesX (xs := expand from_ (infoOf s l) 16) (e := 0) (fun w2 h2 => by rw [show infoOf s l = xs by rw [hxs, List.take_of_length_le (by omega)]] at hex ⊢; have := expandX_r A from_ ck (some ⟨b, 0, none⟩) xs (xs.map b8 ++ r).length 16 hck (by rw [List.length_append, List.length_map]; omega) w2 (hA.here h2 (fun _ _ => by simp)) (at_pre (by repeat (first | exact List.Mem.head _ | refine List.Mem.tail _ ?_)) h2); rw [hex] at this; exact this) (fun A' c' E hl hO => ?_)) | refine Need.au ?_ | (refine Split.mk (fun hsplit => ?_) (fun hsplit => ?_) <;> (try simp only [List.cons.injEq, and_true, true_and, not_true_eq_false, not_false_eq_true] at hsplit) <;> try (exfalso; omega)) | refine Pick.au ?_ | refine store_au ?_ | refine Any.mk (fun _ => ?_) | refine Both.mk ?_ ?_)); all_goals (try (conv => whnf))
      · refine again (n - 1) (by omega) (Sub.cons rfl (Sub.cons rfl (Sub.cons rfl (Sub.cons rfl (Sub.cons rfl (Sub.nil)))))) (List.Sublist.cons_cons _ (List.nil_sublist _)) ⟨i + 1, _, b6, _, _, r6, fr6, xs ++ put64 (l.getD i 0), by omega, by omega, ?_, rfl, rfl, hf6, rfl, rfl⟩
        rw [hxs, infoOf, infoOf, longs_step _ _ (by omega)]; simp only [List.append_assoc]
      · exact Done.mk ⟨_, _, _, rfl, hl, hO, List.sublist_append_left _ _⟩
theorem rkey_r (A : Option Addr) (from_ : List B8) (ck : Nat) (s : ByteArray) (L : Option Addr) (l : List (BitVec 64)) (cl : Nat) (hck : from_.length ≤ ck) (hs : s.size ≤ 140737488355328) (hl64 : l.length ≤ 140737488355328) (w : World) (hA : At w A (from_.map b8)) (hL : At w L (l.map w64)) :
    Ret Tryz.prog 76 [.slice A from_.length ck, .string s, .slice L l.length cl] w (GivesX (kdfKey from_ s l).1 (kdfKey from_ s l).2) := by
  unfold kdfKey
  have hsl := strB_len s
  cases hok : labelOk (strB s) with
  | false =>
    rw [if_pos (.inl rfl)]
    refine ret_vc tab_ok Tryz.func76 rfl rfl ?_
    repeat' ((try (conv => whnf)); (first | refine CallVC.val (fun w2 h2 => hok ▸ label_v s hs w2) ?_ | refine Need.au ?_ | (refine Split.mk (fun hsplit => ?_) (fun hsplit => ?_) <;> (try simp only [List.cons.injEq, and_true, true_and, not_true_eq_false, not_false_eq_true] at hsplit) <;> try (exfalso; omega)) | refine Pick.au ?_ | refine store_au ?_ | refine Any.mk (fun _ => ?_) | refine Both.mk ?_ ?_)); all_goals (try (conv => whnf))
    all_goals exact Done.mk GivesX.no
  | true =>
    have hsz : 1 ≤ s.size ∧ s.size ≤ 64 := by
      unfold labelOk at hok
      rw [Bool.and_eq_true, decide_eq_true_eq, hsl] at hok
      exact hok.2
    by_cases h1 : 16 < l.length
    · rw [if_pos (.inr h1)]
      refine ret_vc tab_ok Tryz.func76 rfl rfl ?_
      repeat' ((try (conv => whnf)); (first | refine CallVC.val (fun w2 h2 => hok ▸ label_v s hs w2) ?_ | refine Need.au ?_ | (refine Split.mk (fun hsplit => ?_) (fun hsplit => ?_) <;> (try simp only [List.cons.injEq, and_true, true_and, not_true_eq_false, not_false_eq_true] at hsplit) <;> try (exfalso; omega)) | refine Pick.au ?_ | refine store_au ?_ | refine Any.mk (fun _ => ?_) | refine Both.mk ?_ ?_)); all_goals (try (conv => whnf))
      all_goals exact Done.mk GivesX.no
    rw [if_neg (by simp [h1])]
    by_cases h2 : 1000 < from_.length
    · rw [if_pos h2]
      refine ret_vc tab_ok Tryz.func76 rfl rfl ?_
      repeat' ((try (conv => whnf)); (first | refine CallVC.val (fun w2 h2 => hok ▸ label_v s hs w2) ?_ | refine Need.au ?_ | (refine Split.mk (fun hsplit => ?_) (fun hsplit => ?_) <;> (try simp only [List.cons.injEq, and_true, true_and, not_true_eq_false, not_false_eq_true] at hsplit) <;> try (exfalso; omega)) | refine Pick.au ?_ | refine store_au ?_ | refine Any.mk (fun _ => ?_) | refine Both.mk ?_ ?_)); all_goals (try (conv => whnf))
      all_goals exact Done.mk GivesX.no
    rw [if_neg h2]
    refine ret_vc tab_ok Tryz.func76 rfl rfl ?_
    repeat' ((try (conv => whnf)); (first | refine CallVC.val (fun w2 h2 => hok ▸ label_v s hs w2) ?_ | (intro hcap; rw [byteCells_b8]) | (refine AppendVC.bytes (xs := strB s) (ys := [0#8]) tab_ok apb rfl (by repeat (first | exact Take.head _ | apply Take.tail)) (.inr (by simp; omega)) (by simp; omega) hsl (Holds.own (by repeat (first | exact List.Mem.head _ | refine List.Mem.tail _ ?_)) 0 rfl rfl) (by show (2 * (_ + _) + 192) * 1 ≤ _; omega) (fun b5 r5 fr5 hf5 => ?_)) | refine Need.au ?_ | (refine Split.mk (fun hsplit => ?_) (fun hsplit => ?_) <;> (try simp only [List.cons.injEq, and_true, true_and, not_true_eq_false, not_false_eq_true] at hsplit) <;> try (exfalso; omega)) | refine Pick.au ?_ | refine store_au ?_ | refine Any.mk (fun _ => ?_) | refine Both.mk ?_ ?_)); all_goals (try (conv => whnf))
    have hil : (infoOf s l).length ≤ 1000 := by unfold infoOf; rw [List.length_append, List.length_append, longs_len, hsl]; show s.size + 1 + _ ≤ _; omega
    have hex : expandX from_ (infoOf s l) 16 = (expand from_ (infoOf s l) 16, 0) := by
      unfold expandX
      rw [if_neg (by omega), if_neg (by omega)]
      rfl
    refine LoopVC.mk (fun n env hs => ∃ (i : Nat) (x : Int) (b k cap : Nat) (r : List Value) (fr : Nat × Nat) (xs : List B8), x = i ∧ i + n = l.length ∧ xs = infoOf s (l.take i) ∧ k = xs.length ∧ cap = (xs.map b8 ++ r).length ∧ Soft fr (xs.map b8 ++ r).length ∧
      env = [(0, .slice A from_.length ck), (2, .slice L l.length cl), (8, .slice (some ⟨b, 0, none⟩) k cap), (9, .int .i64 x)] ∧ hs = [⟨b, xs.map b8 ++ r, 5, fr⟩]) l.length
      (Weak.mk (Sub.cons rfl (Sub.cons rfl (Sub.cons rfl (Sub.cons rfl (Sub.nil))))) (List.Sublist.cons_cons _ (List.nil_sublist _)) ⟨0, 0, b5, _, _, r5, fr5, strB s ++ [0#8], rfl, by omega, by simp [infoOf], by rw [List.length_append, hsl]; rfl, rfl, hf5, rfl, rfl⟩) ?_
    rintro n env hs ⟨i, _, b, k, cap, r, fr, xs, rfl, hi, hxs, hk, hcap, hfr, rfl, rfl⟩
    subst hk hcap
    have hxl : xs.length ≤ 1000 := by rw [hxs]; unfold infoOf; rw [List.length_append, List.length_append, longs_len, hsl, List.length_take]; show s.size + 1 + _ ≤ _; omega
    cases L with
    | none =>
      have hl0 : l = [] := by
        cases l with
        | nil => rfl
        | cons x y => obtain ⟨a, ha⟩ := hL.is (by simp); cases ha
      subst hl0
      have hxs2 : xs = infoOf s [] := by rw [hxs]; simp
      subst hxs2
      repeat' ((try (conv => whnf)); (first | exact absurd (show (i : Int) < ((List.length ([] : List (BitVec 64)) : Nat) : Int) by assumption) (by simp) | (refine CallVC.givesX (fun w2 h2 => hex ▸ rexpandX_r A from_ ck _ (infoOf s []) _ 16 hck (by rw [List.length_append, List.length_map]; omega) w2 (hA.here h2 (fun _ _ => by simp)) (at_pre (by repeat (first | exact List.Mem.head _ | refine List.Mem.tail _ ?_)) h2)) (fun A' c' E hl hO => ?_)) | refine Need.au ?_ | (refine Split.mk (fun hsplit => ?_) (fun hsplit => ?_) <;> (try simp only [List.cons.injEq, and_true, true_and, not_true_eq_false, not_false_eq_true] at hsplit) <;> try (exfalso; omega)) | refine Pick.au ?_ | refine store_au ?_ | refine Any.mk (fun _ => ?_) | refine Both.mk ?_ ?_)); all_goals (try (conv => whnf))
      exact Done.mk ⟨_, _, _, rfl, hl, hO, List.sublist_append_left _ _⟩
    | some la =>
      repeat' ((try (conv => whnf)); (first | refine Pick.mk _ (long_arg hL (by simp) (by omega)) ?_ | (refine CallVC.givesB (xs := xs ++ put64 (l.getD i 0)) (fun w2 h2 => rputlong_r _ xs _ (l.getD i 0) (by omega) w2 (at_pre (by repeat (first | exact List.Mem.head _ | refine List.Mem.tail _ ?_)) h2)) (fun b6 r6 fr6 hf6 => ?_)) | (refine CallVC.givesX (xs := expand from_ (infoOf s l) 16) (e := 0) (fun w2 h2 => by rw [show infoOf s l = xs by rw [hxs, List.take_of_length_le (by omega)]] at hex ⊢; have := rexpandX_r A from_ ck (some ⟨b, 0, none⟩) xs (xs.map b8 ++ r).length 16 hck (by rw [List.length_append, List.length_map]; omega) w2 (hA.here h2 (fun _ _ => by simp)) (at_pre (by repeat (first | exact List.Mem.head _ | refine List.Mem.tail _ ?_)) h2); rw [hex] at this; exact this) (fun A' c' E hl hO => ?_)) | refine Need.au ?_ | (refine Split.mk (fun hsplit => ?_) (fun hsplit => ?_) <;> (try simp only [List.cons.injEq, and_true, true_and, not_true_eq_false, not_false_eq_true] at hsplit) <;> try (exfalso; omega)) | refine Pick.au ?_ | refine store_au ?_ | refine Any.mk (fun _ => ?_) | refine Both.mk ?_ ?_)); all_goals (try (conv => whnf))
      · refine again (n - 1) (by omega) (Sub.cons rfl (Sub.cons rfl (Sub.cons rfl (Sub.cons rfl (Sub.nil))))) (List.Sublist.cons_cons _ (List.nil_sublist _)) ⟨i + 1, _, b6, _, _, r6, fr6, xs ++ put64 (l.getD i 0), by omega, by omega, ?_, rfl, rfl, hf6, rfl, rfl⟩
        rw [hxs, infoOf, infoOf, longs_step _ _ (by omega)]; simp only [List.append_assoc]
      · exact Done.mk ⟨_, _, _, rfl, hl, hO, List.sublist_append_left _ _⟩
end Go.Proofs.YtnlheljpagpiiaaGreat
