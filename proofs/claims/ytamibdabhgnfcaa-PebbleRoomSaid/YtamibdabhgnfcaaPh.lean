/-
  Pebbles: few are kept, few steps; no program but the document's Bits and Room.
-/
import Derived.Test.YtamibdabhgnfcaaPe
set_option linter.unusedVariables false
set_option linter.unusedSimpArgs false
set_option maxRecDepth 100000
set_option maxHeartbeats 8000000
namespace Go.Proofs.Ytamibdabhgnfcaa
open Go
attribute [local irreducible] bitsOf shlOf shrOf
/-- How many bits a number has. -/
def bitsF : Nat → Nat → Nat
  | 0, _ => 0
  | f + 1, n => if n = 0 then 0 else bitsF f (n / 2) + 1
theorem bitsF_ge : ∀ (f n m : Nat), n < 2 ^ f → 2 ^ m ≤ n → m + 1 ≤ bitsF f n
  | 0, n, m, h, h2 => by have := Nat.two_pow_pos m; simp at h; omega
  | f + 1, n, m, h, h2 => by
    have hp := Nat.two_pow_pos m
    have hn : n ≠ 0 := by omega
    rw [bitsF, if_neg hn]
    cases m with
    | zero => omega
    | succ m =>
      have h3 : 2 ^ m ≤ n / 2 := by rw [Nat.pow_succ] at h2; omega
      have h4 : n / 2 < 2 ^ f := by rw [Nat.pow_succ] at h; omega
      have := bitsF_ge f (n / 2) m h4 h3
      omega
def bitsN (n : Int) : Nat := bitsF 9 n.toNat
theorem bitsF_le : ∀ f k : Nat, bitsF f k ≤ f
  | 0, _ => Nat.le_refl _
  | f + 1, k => by
    have := bitsF_le f (k / 2)
    rw [bitsF]
    split <;> omega
theorem bitsN_le (n : Int) : bitsN n ≤ 9 := bitsF_le 9 _
theorem map_fst (i : Int) : ∀ (l : List Int), (l.map fun x => (x, i)).map (·.1) = l
  | [] => rfl
  | x :: l => by rw [List.map_cons, List.map_cons, map_fst i l]
theorem bits_v (n : Int) (hn : 0 ≤ n ∧ n ≤ 256) (w : World) : Val Try.prog 31 [.int .i64 n] w (.int .i64 (bitsN n)) := by
  refine val_vc tab_ok Try.func31 rfl rfl ?_
  repeat' ((try (conv => whnf)); (first | refine Need.mk (by omega) ?_ | refine Need.mk (by decide +kernel) ?_ | refine Need.mk (by rfl) ?_ | refine Need.mk ⟨rfl, Nat.le_of_ble_eq_true rfl⟩ ?_ | (refine Split.mk (fun hsplit => ?_) (fun hsplit => ?_) <;> (try simp only [List.cons.injEq, and_true, true_and, not_true_eq_false, not_false_eq_true] at hsplit) <;> try (exfalso; omega)) | refine Pick.mk _ (fit_i64 (by omega) (by omega)) ?_ | refine Pick.mk _ (fit_u64 (by omega) (by omega)) ?_ | refine Pick.mk _ (fit_u32 (by omega) (by omega)) ?_ | refine Pick.mk _ (fit_u8 (by omega) (by omega)) ?_ | refine Pick.mk _ (quo_i64 (by omega) (by omega) (by omega)) ?_ | refine Pick.mk _ (rem_pos (by omega)) ?_ | refine Pick.mk _ (cellIs_at (by repeat (first | exact List.Mem.head _ | refine List.Mem.tail _ ?_)) rfl) ?_ | refine Pick.mk _ (cellIs_old (by assumption) (by simp)) ?_ | refine Pick.mk _ (pick_whole (by repeat (first | exact List.Mem.head _ | refine List.Mem.tail _ ?_)) (by rfl)) ?_ | refine Pick.mk _ (pick_part (by repeat (first | exact List.Mem.head _ | refine List.Mem.tail _ ?_)) (by rfl)) ?_ | refine store_at (by repeat (first | exact Upd.head _ | apply Upd.tail)) soft0 (by rfl) (by rfl) ?_ | refine Any.mk (fun _ => ?_) | refine Need.mk (List.Sublist.cons _ (List.Sublist.refl _)) ?_ | refine Need.mk (List.Sublist.refl _) ?_ | refine Both.mk ?_ ?_)); all_goals (try (conv => whnf))
  refine LoopVC.mk (fun m env hs => ∃ (f c q : Nat) (ci qi : Int), ci = c ∧ qi = q ∧ q + bitsF f c = bitsN n ∧ c < 2 ^ f ∧ c ≤ 256 ∧ q + f = 9 ∧ m = c ∧ env = [(0, .int .i64 ci), (3, .int .i64 qi)]) n.toNat
    (Weak.mk (Sub.cons rfl (Sub.cons rfl Sub.nil)) (List.Sublist.refl _) ⟨9, n.toNat, 0, n, 0, by omega, rfl, by rw [Nat.zero_add]; rfl, by show n.toNat < 512; omega, by omega, rfl, rfl, rfl⟩) ?_
  rintro m env hs ⟨f, c, q, _, _, rfl, rfl, hq, hc, hc2, hf, rfl, rfl⟩
  repeat' ((try (conv => whnf)); (first | refine Need.mk (by omega) ?_ | refine Need.mk (by decide +kernel) ?_ | refine Need.mk (by rfl) ?_ | refine Need.mk ⟨rfl, Nat.le_of_ble_eq_true rfl⟩ ?_ | (refine Split.mk (fun hsplit => ?_) (fun hsplit => ?_) <;> (try simp only [List.cons.injEq, and_true, true_and, not_true_eq_false, not_false_eq_true] at hsplit) <;> try (exfalso; omega)) | refine Pick.mk _ (fit_i64 (by omega) (by omega)) ?_ | refine Pick.mk _ (fit_u64 (by omega) (by omega)) ?_ | refine Pick.mk _ (fit_u32 (by omega) (by omega)) ?_ | refine Pick.mk _ (fit_u8 (by omega) (by omega)) ?_ | refine Pick.mk _ (quo_i64 (by omega) (by omega) (by omega)) ?_ | refine Pick.mk _ (rem_pos (by omega)) ?_ | refine Pick.mk _ (cellIs_at (by repeat (first | exact List.Mem.head _ | refine List.Mem.tail _ ?_)) rfl) ?_ | refine Pick.mk _ (cellIs_old (by assumption) (by simp)) ?_ | refine Pick.mk _ (pick_whole (by repeat (first | exact List.Mem.head _ | refine List.Mem.tail _ ?_)) (by rfl)) ?_ | refine Pick.mk _ (pick_part (by repeat (first | exact List.Mem.head _ | refine List.Mem.tail _ ?_)) (by rfl)) ?_ | refine store_at (by repeat (first | exact Upd.head _ | apply Upd.tail)) soft0 (by rfl) (by rfl) ?_ | refine Any.mk (fun _ => ?_) | refine Need.mk (List.Sublist.cons _ (List.Sublist.refl _)) ?_ | refine Need.mk (List.Sublist.refl _) ?_ | refine Both.mk ?_ ?_)); all_goals (try (conv => whnf))
  · cases f with
    | zero => simp at hc; omega
    | succ f =>
      have hc0 : m ≠ 0 := by omega
      rw [bitsF, if_neg hc0] at hq
      have h2 : m / 2 < 2 ^ f := by rw [Nat.pow_succ] at hc; omega
      exact again (m / 2) (by omega) (Sub.cons rfl (Sub.cons rfl Sub.nil)) (List.Sublist.refl _) ⟨f, m / 2, q + 1, _, _, by omega, by omega, by omega, h2, by omega, by omega, rfl, rfl⟩
  · obtain rfl : m = 0 := by omega
    have h0 : bitsF f 0 = 0 := by cases f <;> rfl
    rw [h0, Nat.add_zero] at hq
    rw [← hq]
    exact Done.mk rfl
theorem room_v (n : Int) (hn : 0 ≤ n ∧ n ≤ 256) (w : World) : Val Try.prog 29 [.int .i64 n] w (.int .i64 ((bitsN n : Int) + 2)) := by
  have hb := bitsN_le n
  refine val_vc tab_ok Try.func29 rfl rfl ?_
  repeat' ((try (conv => whnf)); (first | refine CallVC.val (fun w2 h2 => bits_v n hn w2) ?_ | refine Need.mk (by omega) ?_ | refine Need.mk (by decide +kernel) ?_ | refine Need.mk (by rfl) ?_ | refine Need.mk ⟨rfl, Nat.le_of_ble_eq_true rfl⟩ ?_ | (refine Split.mk (fun hsplit => ?_) (fun hsplit => ?_) <;> (try simp only [List.cons.injEq, and_true, true_and, not_true_eq_false, not_false_eq_true] at hsplit) <;> try (exfalso; omega)) | refine Pick.mk _ (fit_i64 (by omega) (by omega)) ?_ | refine Pick.mk _ (fit_u64 (by omega) (by omega)) ?_ | refine Pick.mk _ (fit_u32 (by omega) (by omega)) ?_ | refine Pick.mk _ (fit_u8 (by omega) (by omega)) ?_ | refine Pick.mk _ (quo_i64 (by omega) (by omega) (by omega)) ?_ | refine Pick.mk _ (rem_pos (by omega)) ?_ | refine Pick.mk _ (cellIs_at (by repeat (first | exact List.Mem.head _ | refine List.Mem.tail _ ?_)) rfl) ?_ | refine Pick.mk _ (cellIs_old (by assumption) (by simp)) ?_ | refine Pick.mk _ (pick_whole (by repeat (first | exact List.Mem.head _ | refine List.Mem.tail _ ?_)) (by rfl)) ?_ | refine Pick.mk _ (pick_part (by repeat (first | exact List.Mem.head _ | refine List.Mem.tail _ ?_)) (by rfl)) ?_ | refine store_at (by repeat (first | exact Upd.head _ | apply Upd.tail)) soft0 (by rfl) (by rfl) ?_ | refine Any.mk (fun _ => ?_) | refine Need.mk (List.Sublist.cons _ (List.Sublist.refl _)) ?_ | refine Need.mk (List.Sublist.refl _) ?_ | refine Both.mk ?_ ?_)); all_goals (try (conv => whnf))
  exact Done.mk rfl
/-- The stones behind one, each with the index at which it was laid. -/
inductive Path (i : Int) : Int → List (Int × Int) → Prop
  | nil {a : Int} : Path i a []
  | cons {a b β : Int} {r : List (Int × Int)} (hb : b = β + (a - β) / 2) (h1 : 1 ≤ β) (h2 : β ≤ i) (h3 : i ≤ b) (h4 : b < a) (h : Path i b r) : Path i a ((b, β) :: r)
def topP (a : Int) : List (Int × Int) → Int
  | [] => a
  | (b, _) :: r => topP b r
theorem Path.count {i a : Int} {r : List (Int × Int)} (h : Path i a r) : ∀ m, r.length = m + 1 → ((2 ^ m : Nat) : Int) ≤ a - i := by
  induction h with
  | nil => intro m hm; cases hm
  | @cons a b β r hb h1 h2 h3 h4 h ih =>
    intro m hm
    cases m with
    | zero => simp; omega
    | succ m =>
      have := ih m (by simpa using hm)
      have e : ((2 ^ (m + 1) : Nat) : Int) = 2 * ((2 ^ m : Nat) : Int) := by rw [Nat.pow_succ]; omega
      rw [e]
      omega
theorem Path.few {i n : Int} {r : List (Int × Int)} (h : Path i n r) (hi : 1 ≤ i) (hn : 0 ≤ n ∧ n ≤ 256) : r.length ≤ bitsN n := by
  cases hr : r.length with
  | zero => exact Nat.zero_le _
  | succ m =>
    have h1 := h.count m hr
    exact bitsF_ge 9 n.toNat m (by show n.toNat < 512; omega) (by omega)
theorem Path.up {i j a : Int} {r : List (Int × Int)} (h : Path i a r) (hij : i ≤ j) (hr : ∀ p ∈ r, j ≤ p.1) : Path j a r := by
  induction h with
  | nil => exact .nil
  | @cons a b β r hb h1 h2 h3 h4 h ih => exact .cons hb h1 (by omega) (hr _ (List.Mem.head _)) h4 (ih fun p hp => hr p (List.Mem.tail _ hp))
theorem topP_app (a : Int) (r : List (Int × Int)) (b β : Int) : topP a (r ++ [(b, β)]) = b := by
  induction r generalizing a with
  | nil => rfl
  | cons p r ih => exact ih p.1
theorem Path.snoc {i a : Int} {r : List (Int × Int)} (h : Path i a r) {b β : Int} (hb : b = β + (topP a r - β) / 2) (h1 : 1 ≤ β) (h2 : β ≤ i) (h3 : i ≤ b) (h4 : b < topP a r) : Path i a (r ++ [(b, β)]) := by
  induction h with
  | nil => exact .cons hb h1 h2 h3 h4 .nil
  | @cons a b' β' r hb' h1' h2' h3' h4' h ih => exact .cons hb' h1' h2' h3' h4' (ih hb h4)
theorem Path.split {i a : Int} {r : List (Int × Int)} {b β : Int} (h : Path i a (r ++ [(b, β)])) : Path i a r ∧ b = β + (topP a r - β) / 2 ∧ 1 ≤ β ∧ β ≤ i ∧ b < topP a r ∧ ∀ p ∈ r, b < p.1 := by
  induction r generalizing a with
  | nil =>
    cases h with
    | cons hb h1 h2 h3 h4 h => exact ⟨.nil, hb, h1, h2, h4, by simp⟩
  | cons p r ih =>
    obtain ⟨b', β'⟩ := p
    cases h with
    | cons hb h1 h2 h3 h4 h =>
      obtain ⟨p1, p2, p3, p4, p5, p6⟩ := ih h
      refine ⟨.cons hb h1 h2 h3 h4 p1, p2, p3, p4, p5, fun q hq => ?_⟩
      rcases List.mem_cons.1 hq with rfl | hq
      · cases r with
        | nil => exact p5
        | cons q' r' => have := p6 q' (List.Mem.head _); cases p1 with
          | cons _ _ _ _ h4' _ => show b < b'; simp only at this; omega
      · exact p6 q hq
theorem Path.way {i n : Int} {r : List (Int × Int)} {t : Int} {idx : List Int} {c : Int} (h : Path i n r) (hi : 1 ≤ i) (ht : topP n r = t) (hw : Way i t idx c) : Path i n (r ++ idx.map fun x => (x, i)) ∧ topP n (r ++ idx.map fun x => (x, i)) = c := by
  induction hw with
  | nil => simpa using ⟨h, ht⟩
  | @snoc l c hw hlt ih =>
    obtain ⟨h1, h2⟩ := ih
    rw [List.map_append, ← List.append_assoc]
    refine ⟨h1.snoc (by rw [h2]) hi (Int.le_refl _) (by omega) (by rw [h2]; omega), topP_app _ _ _ _⟩
/-- What each stone behind the first has been given since it was laid. -/
def cred (told : Int) : List (Int × Int) → Int
  | [] => 0
  | (_, β) :: r => (told - β + 1) + cred told r
theorem cred_app (told : Int) (r s : List (Int × Int)) : cred told (r ++ s) = cred told r + cred told s := by
  induction r with
  | nil => simp [cred]
  | cons p r ih => obtain ⟨b, β⟩ := p; simp only [List.cons_append, cred, ih]; omega
theorem cred_succ (told : Int) (r : List (Int × Int)) : cred (told + 1) r = cred told r + r.length := by
  induction r with
  | nil => rfl
  | cons p r ih => obtain ⟨b, β⟩ := p; simp only [cred, ih, List.length_cons]; omega
theorem cred_new (told : Int) (idx : List Int) : cred told (idx.map fun x => (x, told + 1)) = 0 := by
  induction idx with
  | nil => rfl
  | cons x r ih => simp only [List.map_cons, cred, ih]; omega
theorem cred_pos {i told a : Int} {r : List (Int × Int)} (h : Path i a r) (hi : i ≤ told + 1) : 0 ≤ cred told r := by
  induction h with
  | nil => exact Int.le_refl _
  | @cons a b β r hb h1 h2 h3 h4 h ih => simp only [cred]; omega
/-- Steps so far, and what is laid by for those to come. -/
structure GInv (n told W : Int) (B : Nat) (l : List Int) : Prop where
  sum : W ≤ told * B
  more : told < n → ∃ r pc, l = n :: r.map (·.1) ∧ Path (told + 1) n r ∧ W + cred told r + pc ≤ told * B ∧ 0 ≤ pc ∧ topP n r - (told + 1) ≤ pc
theorem GInv.begin {n : Int} {idx : List Int} {B : Nat} (hw : Way 1 n idx 1) : GInv n 0 0 B (n :: idx) := by
  refine ⟨by omega, fun _ => ⟨idx.map fun x => (x, 1), 0, by rw [map_fst], ?_⟩⟩
  obtain ⟨h1, h2⟩ := Path.way (r := []) .nil (Int.le_refl _) rfl hw
  rw [List.nil_append] at h1 h2
  have h3 := cred_new 0 idx
  simp only [Int.zero_add] at h3
  exact ⟨h1, by rw [h3]; omega, Int.le_refl _, by rw [h2]; omega⟩
theorem GInv.next {n told W : Int} {l0 l1 l2 : List Int} {t c : Int} (h : GInv n told W (bitsN n) (l0 ++ [t])) (h0 : 0 ≤ told) (hlt : told < n) (hn : n ≤ 256) (hll : l0 ++ [t] ++ l1 = l2 ++ [c]) (hw : Way (told + 1) t l1 c) (hc : c = told + 1) : GInv n (told + 1) (W + (t - (told + 1))) (bitsN n) l2 := by
  obtain ⟨r, pc, hl, hp, hsum, hpc, htop⟩ := h.more hlt
  have htt : topP n r = t := by
    cases hr : r.reverse with
    | nil =>
      have : r = [] := by simpa using hr
      subst this
      have e : l0 ++ [t] = [] ++ [n] := by simpa using hl
      have := List.append_inj' e rfl
      simpa [topP] using this.2.symm
    | cons p q =>
      have : r = q.reverse ++ [p] := by rw [← List.reverse_reverse r, hr, List.reverse_cons]
      subst this
      obtain ⟨b, β⟩ := p
      have e : l0 ++ [t] = (n :: q.reverse.map (·.1)) ++ [b] := by rw [hl]; simp
      have := List.append_inj' e rfl
      rw [topP_app]
      simpa using this.2.symm
  obtain ⟨hp2, htop2⟩ := hp.way (by omega) htt hw
  have hfew := hp2.few (by omega) ⟨by omega, hn⟩
  have hcr : cred (told + 1) (r ++ l1.map fun x => (x, told + 1)) = cred told r + (r ++ l1.map fun x => (x, told + 1)).length := by
    rw [cred_succ, cred_app, cred_new]; omega
  have hmul : (told + 1) * (bitsN n : Int) = told * bitsN n + bitsN n := by rw [Int.add_mul, Int.one_mul]
  have hall : n :: (r ++ l1.map fun x => (x, told + 1)).map (·.1) = l2 ++ [c] := by
    rw [← hll, hl, List.map_append, map_fst]
    rfl
  have hpos := cred_pos (told := told) hp (by omega)
  generalize r ++ l1.map (fun x => (x, told + 1)) = s at *
  have hs1 : (W + (t - (told + 1))) + cred (told + 1) s ≤ (told + 1) * (bitsN n : Int) := by
    rw [hmul, hcr, ← htt]
    omega
  have hpos2 := cred_pos (told := told + 1) hp2 (by omega)
  refine ⟨by omega, fun hlt2 => ?_⟩
  cases hr : s.reverse with
  | nil =>
    have : s = [] := by simpa using hr
    subst this
    simp only [topP] at htop2
    omega
  | cons p q =>
    have hs : s = q.reverse ++ [p] := by rw [← List.reverse_reverse s, hr, List.reverse_cons]
    subst hs
    obtain ⟨b, β⟩ := p
    rw [topP_app] at htop2
    subst htop2
    obtain ⟨q1, q2, q3, q4, q5, q6⟩ := hp2.split
    rw [cred_app] at hs1
    simp only [cred] at hs1
    have e : l2 ++ [b] = (n :: q.reverse.map (·.1)) ++ [b] := by rw [← hall]; simp
    have hl2 := (List.append_inj' e rfl).1
    refine ⟨q.reverse, told + 1 - β + 1, hl2, q1.up (by omega) (fun p hp => by have := q6 p hp; omega), by omega, by omega, by omega⟩
theorem GInv.kept {n told W : Int} {l : List Int} (h : GInv n told W (bitsN n) l) (h0 : 0 ≤ told) (hlt : told < n) (hn : n ≤ 256) : (l.length : Int) ≤ bitsN n + 1 := by
  obtain ⟨r, pc, rfl, hp, _⟩ := h.more hlt
  have := hp.few (by omega) ⟨by omega, hn⟩
  rw [List.length_cons, List.length_map]
  omega
end Go.Proofs.Ytamibdabhgnfcaa
