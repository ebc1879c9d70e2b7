/-
  Keys one behind the other, as an iterator goes over them; every input.
-/
import Derived.Test.YtamibdabhgnfcaaKh
set_option linter.unusedVariables false
set_option linter.unusedSimpArgs false
set_option maxRecDepth 100000
set_option maxHeartbeats 8000000
namespace Go.Proofs.Ytamibdabhgnfcaa
open Go
attribute [local irreducible] bitsOf shlOf shrOf
theorem chain_ok : labelOk (strB sChain) = true := by decide
theorem kdfKey_ok {k : List B8} {s : ByteArray} {l : List (BitVec 64)} (h1 : labelOk (strB s) = true) (h2 : l.length ≤ 16) (h3 : k.length ≤ 1000) : kdfKey k s l = (expand k (infoOf s l) 16, 0) := by
  unfold kdfKey
  rw [if_neg (by simp [h1]; omega), if_neg (by omega)]
theorem step_ok {k : List B8} (h : k.length = 16) : nextOf k sChain = (expand k (infoOf sChain []) 16, 0) := by
  unfold nextOf
  rw [if_pos h, kdfKey_ok chain_ok (by decide) (by omega)]
/-- So many steps. -/
def stepN (key : List B8) : Nat → List B8
  | 0 => key
  | i + 1 => (nextOf (stepN key i) sChain).1
theorem stepN_len {key : List B8} (h : key.length = 16) (i : Nat) : (stepN key i).length = 16 := by
  induction i with
  | zero => exact h
  | succ i ih => rw [stepN, step_ok ih]; exact expand_len _ _ _
theorem stepN_next {key : List B8} (h : key.length = 16) (i : Nat) : nextOf (stepN key i) sChain = (stepN key (i + 1), 0) := by
  rw [show stepN key (i + 1) = (nextOf (stepN key i) sChain).1 from rfl, step_ok (stepN_len h i)]
theorem stepN_add (key : List B8) (i j : Nat) : stepN (stepN key i) j = stepN key (i + j) := by
  induction j with
  | zero => rfl
  | succ j ih => show (nextOf (stepN (stepN key i) j) sChain).1 = (nextOf (stepN key (i + j)) sChain).1; rw [ih]
theorem CallVC.givesXP {G : Cx} {hs : Hp} {f : Nat} {args : List Value} {K : Value → Hp → Prop} {xs : List B8} {e : Int} {n : Nat} (hc : ∀ w, St G hs w → Ret G.P f args w (GivesX xs e)) (hn : xs.length = n) (hpos : 0 < n)
    (hk : ∀ b r fr c, c = (xs.map b8 ++ r).length → Soft fr (xs.map b8 ++ r).length → K (.tuple #[.slice (some ⟨b, 0, none⟩) n c, .int .i64 e]) (⟨b, xs.map b8 ++ r, 5, fr⟩ :: hs)) : CallVC G hs f args K := by
  subst hn
  refine CallVC.givesX hc fun A c E hl hO => ?_
  cases hO with
  | none => exact absurd hpos (Nat.lt_irrefl _)
  | row b l r fr hf => exact hk b r fr _ rfl hf
theorem back_r (A : Option Addr) (n ck : Nat) (w : World) :
    Ret Try.prog 33 [.slice A n ck] w fun v hs => ∃ b1, v = .func (.func 42) #[] #[.pointer (some ⟨b1, 0, none⟩)] ∧
      hs = [⟨b1, [.slice A n ck], 22, (0, 0)⟩] := by
  refine ret_vc tab_ok Try.func33 rfl rfl ?_
  repeat' ((try (conv => whnf)); (first | refine Need.mk (by omega) ?_ | refine Need.mk (by decide +kernel) ?_ | refine Need.mk (by rfl) ?_ | refine Need.mk ⟨rfl, Nat.le_of_ble_eq_true rfl⟩ ?_ | (refine Split.mk (fun hsplit => ?_) (fun hsplit => ?_) <;> (try simp only [List.cons.injEq, and_true, true_and, not_true_eq_false, not_false_eq_true] at hsplit) <;> try (exfalso; omega)) | refine Pick.mk _ (fit_i64 (by omega) (by omega)) ?_ | refine Pick.mk _ (fit_u64 (by omega) (by omega)) ?_ | refine Pick.mk _ (fit_u32 (by omega) (by omega)) ?_ | refine Pick.mk _ (fit_u8 (by omega) (by omega)) ?_ | refine Pick.mk _ (quo_i64 (by omega) (by omega) (by omega)) ?_ | refine Pick.mk _ (rem_pos (by omega)) ?_ | refine Pick.mk _ (cellIs_at (by repeat (first | exact List.Mem.head _ | refine List.Mem.tail _ ?_)) rfl) ?_ | refine Pick.mk _ (cellIs_old (by assumption) (by simp)) ?_ | refine Pick.mk _ (pick_whole (by repeat (first | exact List.Mem.head _ | refine List.Mem.tail _ ?_)) (by rfl)) ?_ | refine Pick.mk _ (pick_part (by repeat (first | exact List.Mem.head _ | refine List.Mem.tail _ ?_)) (by rfl)) ?_ | refine store_at (by repeat (first | exact Upd.head _ | apply Upd.tail)) soft0 (by rfl) (by rfl) ?_ | refine Any.mk (fun _ => ?_) | refine Need.mk (List.Sublist.cons _ (List.Sublist.refl _)) ?_ | refine Need.mk (List.Sublist.refl _) ?_ | refine Both.mk ?_ ?_)); all_goals (try (conv => whnf))
  exact Done.mk ⟨_, rfl, rfl⟩
/-- What the iterator's captured variable holds. -/
structure KB (fp : List Nat) (n0 b1 : Nat) (A : Option Addr) (key : List B8) (ck : Nat) (w : World) : Prop where
  h1 : At w (some ⟨b1, 0, none⟩) [.slice A key.length ck]
  hA : At w A (key.map b8)
  lt : ∀ b ∈ fp, b < n0
/-- A key in a block of its own, made since. -/
structure KeyIn (n0 : Nat) (w : World) (xs : List B8) (b : Nat) (r : List Value) (fr : Nat × Nat) : Prop where
  new : n0 ≤ b
  own : w.heap[b]? = some (.cells (xs.map b8 ++ r).toArray 5 fr)
  soft : Soft fr (xs.map b8 ++ r).length
theorem KeyIn.kept {n0 : Nat} {w w' : World} {xs : List B8} {b : Nat} {r : List Value} {fr : Nat × Nat} {fp : List Nat} (h : KeyIn n0 w xs b r fr) (hk : Kept fp w w') (hlt : ∀ b ∈ fp, b < n0) : KeyIn n0 w' xs b r fr :=
  ⟨h.new, hk.old _ _ _ _ h.own (fun hm => by have := hlt _ hm; have := h.new; omega), h.soft⟩
theorem KeyIn.at_ {n0 : Nat} {w : World} {xs : List B8} {b : Nat} {r : List Value} {fr : Nat × Nat} (h : KeyIn n0 w xs b r fr) : At w (some ⟨b, 0, none⟩) (xs.map b8) := by
  intro i x hx
  refine ⟨_, rfl, ?_⟩
  rw [add_plain, Nat.zero_add]
  simp only [World.cell?, h.own]
  have hi := (List.getElem?_eq_some_iff.1 hx).1
  simp only [Option.isSome_none, Bool.false_eq_true, if_false]
  rw [List.getElem?_toArray, List.getElem?_append_left hi]
  exact hx
/-- The elements. -/
def keyEl (n0 : Nat) (key : List B8) (i : Nat) (w : World) (vs : Array Value) : Prop := ∃ b r fr c, vs = #[.int .i64 (i : Int), .slice (some ⟨b, 0, none⟩) 16 c] ∧ c = ((stepN key i).map b8 ++ r).length ∧ KeyIn n0 w (stepN key i) b r fr
theorem back_iter (fp : List Nat) (n0 b1 : Nat) (A : Option Addr) (key : List B8) (ck : Nat) (N : Nat) (hN : N ≤ 1000000) (hlen : key.length = 16) (hck : key.length ≤ ck) (W1 : World) (hn0 : n0 ≤ W1.heap.size) (hK : KB fp n0 b1 A key ck W1) :
    Iter Try.prog 42 #[.pointer (some ⟨b1, 0, none⟩)] W1 fp False N (keyEl n0 key) := by
  refine iter_vc Try.func42 rfl rfl rfl ?_
  intro l J Jx hJ hJx hy hlim h0 a hf
  have hst := st_self Try.prog W1
  obtain ⟨hh1, hA, hlt⟩ := hK
  refine chain_sound (G := ⟨Try.prog, W1, []⟩) tab_ok 2 _ _ [] _ _ (K := fun env hs => Done (∃ b r, Sub [(0, .func (.yield l) #[] #[]), (3, .slice (some ⟨b, 0, none⟩) 16 (key.map b8 ++ r).length), (4, .int .i64 0)] env ∧ List.Sublist [⟨b, key.map b8 ++ r, 5, (0, 0)⟩] hs)) (X := fun _ _ _ => False) (R := fun _ _ => False) ?_ ?_ (fun _ _ _ _ _ h => h.elim) (fun _ _ _ _ h => h.elim) hf hst
  · repeat' ((try (conv => whnf)); (first | refine Pick.mk _ (cell_known hh1 (by simp) rfl) ?_ | (refine AppendVC.nil tab_ok apb (Holds.at (by rw [List.length_map]) hA (by simp)) (by show (2 * _ + 192) * 1 ≤ _; omega) (fun h0 => by omega) (fun _ b2 c2 hc2 => ?_)) | refine Need.mk (by omega) ?_ | refine Need.mk (by decide +kernel) ?_ | refine Need.mk (by rfl) ?_ | refine Need.mk ⟨rfl, Nat.le_of_ble_eq_true rfl⟩ ?_ | (refine Split.mk (fun hsplit => ?_) (fun hsplit => ?_) <;> (try simp only [List.cons.injEq, and_true, true_and, not_true_eq_false, not_false_eq_true] at hsplit) <;> try (exfalso; omega)) | refine Pick.mk _ (fit_i64 (by omega) (by omega)) ?_ | refine Pick.mk _ (fit_u64 (by omega) (by omega)) ?_ | refine Pick.mk _ (fit_u32 (by omega) (by omega)) ?_ | refine Pick.mk _ (fit_u8 (by omega) (by omega)) ?_ | refine Pick.mk _ (quo_i64 (by omega) (by omega) (by omega)) ?_ | refine Pick.mk _ (rem_pos (by omega)) ?_ | refine Pick.mk _ (cellIs_at (by repeat (first | exact List.Mem.head _ | refine List.Mem.tail _ ?_)) rfl) ?_ | refine Pick.mk _ (cellIs_old (by assumption) (by simp)) ?_ | refine Pick.mk _ (pick_whole (by repeat (first | exact List.Mem.head _ | refine List.Mem.tail _ ?_)) (by rfl)) ?_ | refine Pick.mk _ (pick_part (by repeat (first | exact List.Mem.head _ | refine List.Mem.tail _ ?_)) (by rfl)) ?_ | refine store_at (by repeat (first | exact Upd.head _ | apply Upd.tail)) soft0 (by rfl) (by rfl) ?_ | refine Any.mk (fun _ => ?_) | refine Need.mk (List.Sublist.cons _ (List.Sublist.refl _)) ?_ | refine Need.mk (List.Sublist.refl _) ?_ | refine Both.mk ?_ ?_)); all_goals (try (conv => whnf))
    refine Done.mk ⟨b2, zerosL (c2 - key.length) ty5.zero, ?_, List.Sublist.refl _⟩
    rw [List.length_append, List.length_map, zerosL_len, show key.length + (c2 - key.length) = c2 by omega, hlen]
    exact Sub.cons rfl (Sub.cons rfl (Sub.cons rfl Sub.nil))
  intro env hs a w hk hf hw
  obtain ⟨b, r, hsub, hsl⟩ := hk.out
  replace hf := hf.sub hsub
  replace hw := hw.sub hsl
  have hJ0 := hJ _ _ _ h0 (hw.sub (List.nil_sublist _))
  have hkey : KeyIn n0 w (stepN key 0) b r (0, 0) := ⟨Nat.le_trans hn0 ((hw.new _ (List.Mem.head _)).resolve_right (by simp)), hw.own _ (List.Mem.head _), soft0⟩
  have hsz := Nat.le_trans hn0 hw.size
  refine wpIn_block (wpIn_loop_ghost' (fun n a w => ∃ (i : Nat) (x : Int) (b : Nat) (r : List Value) (fr : Nat × Nat) (c : Nat), x = i ∧ i + n = N ∧ c = ((stepN key i).map b8 ++ r).length ∧ J i w ∧ n0 ≤ w.heap.size ∧ KeyIn n0 w (stepN key i) b r fr ∧
    Fits [] 18 [(0, .func (.yield l) #[] #[]), (3, .slice (some ⟨b, 0, none⟩) 16 c), (4, .int .i64 x)] a) N ⟨0, 0, b, r, _, _, rfl, by omega, rfl, hJ0, hsz, hkey, hf⟩ ?_)
  clear hf hw hk hst hJ0 hkey hsub hsl hsz
  rintro n a w ⟨i, _, b, r, fr, c, rfl, hi, hc, hJi, hsz, hkey, hf⟩
  have hiN : i < N := by
    rcases Nat.lt_or_ge i N with h | h
    · exact h
    · obtain rfl : i = N := by omega
      exact absurd hJi (hlim (fun h => h) w)
  have hst := st_self Try.prog w
  refine wpIn_seq (wpIn_seq (region_yield (G := ⟨Try.prog, w, []⟩) tab_ok [_, _, _] _ [] _ (.tmp 7) [(0, .func (.yield l) #[] #[]), (3, .slice (some ⟨b, 0, none⟩) 16 c), (4, .int .i64 (i : Int)), (7, .func (.yield l) #[] #[]), (8, .int .i64 (i : Int)), (9, .slice (some ⟨b, 0, none⟩) 16 c)]
    [] l #[.int .i64 (i : Int), .slice (some ⟨b, 0, none⟩) 16 c] (fun w1 e B => (e = .returned (.bool true) ∧ J (i + 1) B ∧ Kept fp w1 B) ∨ (e = .returned (.bool false) ∧ Jx (i + 1) B)) rfl rfl rfl rfl ?_ hf hst rfl
    (fun ρ h => by have e1 := h (.tmp 8) _ rfl; have e2 := h (.tmp 9) _ rfl; simp [e1, e2]) (fun w3 h3 => hy i w3 _ hiN (hJ _ _ _ hJi h3) ⟨b, r, fr, c, rfl, hc, hkey.kept (Kept.of h3) (by simp)⟩) ?_))
  · repeat' ((try (conv => whnf)); (first | refine Need.mk (by omega) ?_ | refine Need.mk (by decide +kernel) ?_ | refine Need.mk (by rfl) ?_ | refine Need.mk ⟨rfl, Nat.le_of_ble_eq_true rfl⟩ ?_ | (refine Split.mk (fun hsplit => ?_) (fun hsplit => ?_) <;> (try simp only [List.cons.injEq, and_true, true_and, not_true_eq_false, not_false_eq_true] at hsplit) <;> try (exfalso; omega)) | refine Pick.mk _ (fit_i64 (by omega) (by omega)) ?_ | refine Pick.mk _ (fit_u64 (by omega) (by omega)) ?_ | refine Pick.mk _ (fit_u32 (by omega) (by omega)) ?_ | refine Pick.mk _ (fit_u8 (by omega) (by omega)) ?_ | refine Pick.mk _ (quo_i64 (by omega) (by omega) (by omega)) ?_ | refine Pick.mk _ (rem_pos (by omega)) ?_ | refine Pick.mk _ (cellIs_at (by repeat (first | exact List.Mem.head _ | refine List.Mem.tail _ ?_)) rfl) ?_ | refine Pick.mk _ (cellIs_old (by assumption) (by simp)) ?_ | refine Pick.mk _ (pick_whole (by repeat (first | exact List.Mem.head _ | refine List.Mem.tail _ ?_)) (by rfl)) ?_ | refine Pick.mk _ (pick_part (by repeat (first | exact List.Mem.head _ | refine List.Mem.tail _ ?_)) (by rfl)) ?_ | refine store_at (by repeat (first | exact Upd.head _ | apply Upd.tail)) soft0 (by rfl) (by rfl) ?_ | refine Any.mk (fun _ => ?_) | refine Need.mk (List.Sublist.cons _ (List.Sublist.refl _)) ?_ | refine Need.mk (List.Sublist.refl _) ?_ | refine Both.mk ?_ ?_)); all_goals (try (conv => whnf))
    exact Done.mk ⟨Sub.cons rfl (Sub.cons rfl (Sub.cons rfl (Sub.cons rfl (Sub.cons rfl (Sub.cons rfl Sub.nil))))), List.Sublist.refl _⟩
  clear hf hst
  rintro w3 e B h3 (⟨rfl, hJ1, hk1⟩ | ⟨rfl, hx⟩)
  · refine ⟨_, rfl, fun env' _ => Done (Sub [(0, .func (.yield l) #[] #[]), (3, .slice (some ⟨b, 0, none⟩) 16 c), (4, .int .i64 (i : Int)), (10, .bool true)] env'), ?_, ?_⟩
    · repeat' ((try (conv => whnf)); (first | refine Need.mk (by omega) ?_ | refine Need.mk (by decide +kernel) ?_ | refine Need.mk (by rfl) ?_ | refine Need.mk ⟨rfl, Nat.le_of_ble_eq_true rfl⟩ ?_ | (refine Split.mk (fun hsplit => ?_) (fun hsplit => ?_) <;> (try simp only [List.cons.injEq, and_true, true_and, not_true_eq_false, not_false_eq_true] at hsplit) <;> try (exfalso; omega)) | refine Pick.mk _ (fit_i64 (by omega) (by omega)) ?_ | refine Pick.mk _ (fit_u64 (by omega) (by omega)) ?_ | refine Pick.mk _ (fit_u32 (by omega) (by omega)) ?_ | refine Pick.mk _ (fit_u8 (by omega) (by omega)) ?_ | refine Pick.mk _ (quo_i64 (by omega) (by omega) (by omega)) ?_ | refine Pick.mk _ (rem_pos (by omega)) ?_ | refine Pick.mk _ (cellIs_at (by repeat (first | exact List.Mem.head _ | refine List.Mem.tail _ ?_)) rfl) ?_ | refine Pick.mk _ (cellIs_old (by assumption) (by simp)) ?_ | refine Pick.mk _ (pick_whole (by repeat (first | exact List.Mem.head _ | refine List.Mem.tail _ ?_)) (by rfl)) ?_ | refine Pick.mk _ (pick_part (by repeat (first | exact List.Mem.head _ | refine List.Mem.tail _ ?_)) (by rfl)) ?_ | refine store_at (by repeat (first | exact Upd.head _ | apply Upd.tail)) soft0 (by rfl) (by rfl) ?_ | refine Any.mk (fun _ => ?_) | refine Need.mk (List.Sublist.cons _ (List.Sublist.refl _)) ?_ | refine Need.mk (List.Sublist.refl _) ?_ | refine Both.mk ?_ ?_)); all_goals (try (conv => whnf))
      exact Done.mk (Sub.cons rfl (Sub.cons rfl (Sub.cons rfl (Sub.cons rfl Sub.nil))))
    intro env hs a w4 hk hf hw
    replace hf := hf.sub hk.out
    have hkw : Kept [] B w4 := Kept.of hw
    refine wpIn_cond (t := true) (hf.agrees _ _ rfl) (wpIn_skip ?_)
    have hkey2 := ((hkey.kept (Kept.of h3) (by simp)).kept hk1 hlt).kept hkw (by simp)
    have hJ2 := hJ _ _ _ hJ1 (hw.sub (List.nil_sublist _))
    have hsz2 : n0 ≤ w4.heap.size := Nat.le_trans hsz (Nat.le_trans h3.size (Nat.le_trans hk1.size hw.size))
    have hst := st_self Try.prog w4
    have hA2 := hkey2.at_
    have hl16 := stepN_len hlen i
    have hl17 := stepN_len hlen (i + 1)
    have hnx := stepN_next hlen i
    refine codeVC_sound (G := ⟨Try.prog, w4, []⟩) (ds := []) tab_ok _ _ [] (fun env hs => Done (∃ b r fr c, c = ((stepN key (i + 1)).map b8 ++ r).length ∧ Soft fr ((stepN key (i + 1)).map b8 ++ r).length ∧ Sub [(0, .func (.yield l) #[] #[]), (3, .slice (some ⟨b, 0, none⟩) 16 c), (4, .int .i64 ((i + 1 : Nat) : Int))] env ∧
      List.Sublist [⟨b, (stepN key (i + 1)).map b8 ++ r, 5, fr⟩] hs)) (fun _ _ _ => False) (fun _ _ => False) _ _ _ ?_ ⟨?_, fun _ _ _ _ _ h => h.elim, fun _ _ _ _ h => h.elim⟩ hf hst
    · repeat' ((try (conv => whnf)); (first | (refine CallVC.givesXP (xs := stepN key (i + 1)) (e := 0) (fun w5 h5 => by have := step_r (some ⟨b, 0, none⟩) (stepN key i) c (by rw [hc, List.length_append, List.length_map]; omega) w5 (hA2.here h5 (fun _ _ => by simp)); rw [hnx, hl16] at this; exact this) hl17 (by omega) (fun b6 r6 fr6 c6 hc6 hf6 => ?_)) | refine Need.mk (by omega) ?_ | refine Need.mk (by decide +kernel) ?_ | refine Need.mk (by rfl) ?_ | refine Need.mk ⟨rfl, Nat.le_of_ble_eq_true rfl⟩ ?_ | (refine Split.mk (fun hsplit => ?_) (fun hsplit => ?_) <;> (try simp only [List.cons.injEq, and_true, true_and, not_true_eq_false, not_false_eq_true] at hsplit) <;> try (exfalso; omega)) | refine Pick.mk _ (fit_i64 (by omega) (by omega)) ?_ | refine Pick.mk _ (fit_u64 (by omega) (by omega)) ?_ | refine Pick.mk _ (fit_u32 (by omega) (by omega)) ?_ | refine Pick.mk _ (fit_u8 (by omega) (by omega)) ?_ | refine Pick.mk _ (quo_i64 (by omega) (by omega) (by omega)) ?_ | refine Pick.mk _ (rem_pos (by omega)) ?_ | refine Pick.mk _ (cellIs_at (by repeat (first | exact List.Mem.head _ | refine List.Mem.tail _ ?_)) rfl) ?_ | refine Pick.mk _ (cellIs_old (by assumption) (by simp)) ?_ | refine Pick.mk _ (pick_whole (by repeat (first | exact List.Mem.head _ | refine List.Mem.tail _ ?_)) (by rfl)) ?_ | refine Pick.mk _ (pick_part (by repeat (first | exact List.Mem.head _ | refine List.Mem.tail _ ?_)) (by rfl)) ?_ | refine store_at (by repeat (first | exact Upd.head _ | apply Upd.tail)) soft0 (by rfl) (by rfl) ?_ | refine Any.mk (fun _ => ?_) | refine Need.mk (List.Sublist.cons _ (List.Sublist.refl _)) ?_ | refine Need.mk (List.Sublist.refl _) ?_ | refine Both.mk ?_ ?_)); all_goals (try (conv => whnf))
      exact Done.mk ⟨b6, r6, fr6, c6, hc6, hf6, Sub.cons rfl (Sub.cons rfl (Sub.cons rfl Sub.nil)), List.Sublist.refl _⟩
    intro env hs a w5 hk hf hw
    obtain ⟨b6, r6, fr6, c6, hc6, hf6, hsub, hsl⟩ := hk.out
    replace hw := hw.sub hsl
    exact ⟨n - 1, by omega, i + 1, _, b6, r6, fr6, c6, rfl, by omega, hc6, hJ _ _ _ hJ2 (hw.sub (List.nil_sublist _)), Nat.le_trans hsz2 hw.size, ⟨Nat.le_trans hsz2 ((hw.new _ (List.Mem.head _)).resolve_right (by simp)), hw.own _ (List.Mem.head _), hf6⟩, hf.sub hsub⟩
  · refine ⟨_, rfl, fun env' _ => Done (Sub [(10, .bool false)] env'), ?_, ?_⟩
    · repeat' ((try (conv => whnf)); (first | refine Need.mk (by omega) ?_ | refine Need.mk (by decide +kernel) ?_ | refine Need.mk (by rfl) ?_ | refine Need.mk ⟨rfl, Nat.le_of_ble_eq_true rfl⟩ ?_ | (refine Split.mk (fun hsplit => ?_) (fun hsplit => ?_) <;> (try simp only [List.cons.injEq, and_true, true_and, not_true_eq_false, not_false_eq_true] at hsplit) <;> try (exfalso; omega)) | refine Pick.mk _ (fit_i64 (by omega) (by omega)) ?_ | refine Pick.mk _ (fit_u64 (by omega) (by omega)) ?_ | refine Pick.mk _ (fit_u32 (by omega) (by omega)) ?_ | refine Pick.mk _ (fit_u8 (by omega) (by omega)) ?_ | refine Pick.mk _ (quo_i64 (by omega) (by omega) (by omega)) ?_ | refine Pick.mk _ (rem_pos (by omega)) ?_ | refine Pick.mk _ (cellIs_at (by repeat (first | exact List.Mem.head _ | refine List.Mem.tail _ ?_)) rfl) ?_ | refine Pick.mk _ (cellIs_old (by assumption) (by simp)) ?_ | refine Pick.mk _ (pick_whole (by repeat (first | exact List.Mem.head _ | refine List.Mem.tail _ ?_)) (by rfl)) ?_ | refine Pick.mk _ (pick_part (by repeat (first | exact List.Mem.head _ | refine List.Mem.tail _ ?_)) (by rfl)) ?_ | refine store_at (by repeat (first | exact Upd.head _ | apply Upd.tail)) soft0 (by rfl) (by rfl) ?_ | refine Any.mk (fun _ => ?_) | refine Need.mk (List.Sublist.cons _ (List.Sublist.refl _)) ?_ | refine Need.mk (List.Sublist.refl _) ?_ | refine Both.mk ?_ ?_)); all_goals (try (conv => whnf))
      exact Done.mk (Sub.cons rfl Sub.nil)
    intro env hs a w4 hk hf hw
    replace hf := hf.sub hk.out
    exact wpIn_cond (t := false) (hf.agrees _ _ rfl) (wpIn_exit ⟨.inl rfl, hf.defers, .inr ⟨_, hJx _ _ _ hx (hw.sub (List.nil_sublist _))⟩⟩)
end Go.Proofs.Ytamibdabhgnfcaa
