/-
  Bytes written into a digest, in the program; every input.
-/
import Derived.Test.YtnlheljpagpiiaaGreatSg
set_option linter.unusedVariables false
set_option linter.unusedSimpArgs false
set_option maxRecDepth 100000
set_option maxHeartbeats 4000000
namespace Go.Proofs.YtnlheljpagpiiaaGreat
open Go
attribute [local irreducible] bitsOf shlOf shrOf

theorem run_short (s : S8) (l : List B8) (h : l.length < 64) : s.run l = s ∧ rest l = l := by
  have e : l.length / 64 = 0 := by omega
  rw [S8.run, rest, e, comp_zero]
  exact ⟨rfl, rfl⟩
theorem run_long (s : S8) (l : List B8) (h : 64 ≤ l.length) : s.run l = (s.mix (l.take 64)).run (l.drop 64) ∧ rest l = rest (l.drop 64) := by
  have e : l.length / 64 = (l.drop 64).length / 64 + 1 := by rw [List.length_drop]; omega
  rw [S8.run, rest, e, comp_step, S8.run, rest, List.drop_drop, show 64 * ((l.drop 64).length / 64 + 1) = 64 + 64 * ((l.drop 64).length / 64) by omega]
  exact ⟨rfl, rfl⟩
section
variable {G : Cx} {hs : Hp}
theorem Holds.atB {A : Option Addr} {n c : Nat} {xs : List B8} (hn : xs.length = n) (h : At G.w0 A (xs.map b8)) (hd : xs ≠ [] → ∀ a, A = some a → a.block ∉ G.fp) : Holds G hs 1 (.slice A n c) n (xs.map b8) := by
  cases xs with
  | nil => subst hn; exact Holds.nil A c
  | cons x r => exact Holds.at (by simpa using hn) h (hd (by simp))
end
theorem AppendVC.eqv {G : Cx} {hs : Hp} {t tx : Nat} {u u' x x' : Value} {K : Value → Hp → Prop} (h1 : u = u') (h2 : x = x') (h : AppendVC G hs t tx u' x' K) : AppendVC G hs t tx u x K := by subst h1 h2; exact h
theorem slice_cut0 (A : Option Addr) (k c z : Nat) : Value.slice (if c = 0 then A else Option.map (fun x => x.add (0 * z)) A) (k - 0) (c - 0) = .slice A k c := by
  have e : (if c = 0 then A else Option.map (fun x => x.add (0 * z)) A) = A := by
    split
    · rfl
    · rw [Nat.zero_mul]; cases A <;> rfl
  rw [e]; rfl
/-- A digest's block. -/
def digE (p : Nat) (s : S8) (left : Value) (n : Nat) : Ent := ⟨p, digC s left n, 236, (0, 0)⟩
theorem dig_apart {p : Nat} {s : S8} {A : Option Addr} {k c n : Nat} {w : World} (hw : St ⟨Tryz.prog, w, [p]⟩ [digE p s (.slice A k c) n] w) {B : Option Addr} {xs : List B8} (h : At w B (xs.map b8)) (hx : xs ≠ []) : ∀ a, B = some a → a.block ∉ [p] := by
  intro a ha
  have := h.apart hx (hw.own _ (List.Mem.head _)) (digC_noB s A k c n) a ha
  exact fun hm => this (List.mem_singleton.1 hm)
/-- What is left, behind a writing: a row of the call's own, nothing, or what there was. -/
inductive Lft (Al A : Option Addr) (l xs : List B8) : Hp → Prop
  | nil (h : xs = []) (hA : A = none) : Lft Al A l xs []
  | own (b : Nat) (r : List Value) (fr : Nat × Nat) (hA : A = some ⟨b, 0, none⟩) : Lft Al A l xs [⟨b, xs.map b8 ++ r, 5, fr⟩]
  | old (h : xs = l) (hA : ∀ w, At w Al (l.map b8) → At w A (l.map b8)) : Lft Al A l xs []
/-- Entries that are among others, in whatever order. -/
def Sbp (a b : Hp) : Prop := ∃ l : Hp, l.Perm a ∧ l.Sublist b
theorem St.sbp {G : Cx} {a b : Hp} {w : World} (h : St G b w) (hs : Sbp a b) : St G a w := by
  obtain ⟨l, h1, h2⟩ := hs
  exact (h.sub h2).perm h1
def Wrote (p : Nat) (s : S8) (n : Nat) (Al : Option Addr) (l xs : List B8) (v : Value) (hs : Hp) : Prop :=
  v = .int .i64 0 ∧ ∃ A c L, Sbp (digE p s (.slice A xs.length c) n :: L) hs ∧ xs.length ≤ c ∧ Lft Al A l xs L
theorem write_m (p : Nat) (s : S8) (l : List B8) (n : Nat) (Al : Option Addr) (cl : Nat) (A : Option Addr) (bs : List B8) (c : Nat) (hb : n + bs.length ≤ 1048576) (hl64 : l.length < 64) (hcl : l.length ≤ cl) (hc : bs.length ≤ c) (w : World)
    (hw : St ⟨Tryz.prog, w, [p]⟩ [digE p s (.slice Al l.length cl) n] w) (hl : At w Al (l.map b8)) (h : At w A (bs.map b8)) :
    Mut Tryz.prog 143 [.pointer (some ⟨p, 0, none⟩), .slice A bs.length c] w [digE p s (.slice Al l.length cl) n] (Wrote p (s.run (l ++ bs)) (n + bs.length) Al l (rest (l ++ bs))) := by
  obtain ⟨ks, hks⟩ : ∃ ks, ks = table := ⟨_, rfl⟩
  have hkl : ks.length = 64 := by rw [hks]; rfl
  have tb : ∀ w, Val Tryz.prog 163 [] w (.agg (ks.map w32).toArray) := fun w => by rw [hks]; exact table_v w
  have apl := fun h => dig_apart hw hl h
  have apb' := fun h' => dig_apart hw h h'
  refine mut_vc tab_ok Tryz.func143 rfl rfl hw ?_
  repeat' ((try (conv => whnf)); (first | refine CallVC.val (fun w hw => none_v p s _ n w (at_own (off := 0) (List.Mem.head _) hw (fun i v hv => by rw [Nat.zero_add]; exact hv))) ?_ | refine CallVC.val (fun w hw => tb w) ?_ | refine Need.mk (by show (List.map w32 ks).toArray.size = 64; simpa using hkl) ?_ | refine store_all (by repeat (first | exact Upd.head _ | apply Upd.tail)) soft0 (ones_w _) (by show (List.map w32 ks).length = 64; simpa using hkl) ?_ | refine store_at (by repeat (first | exact Upd.head _ | apply Upd.tail)) soft0 rfl rfl ?_ | (refine AppendVC.eqv (slice_cut0 _ _ _ _) (slice_cut0 _ _ _ _) (AppendVC.full (xs := l.map b8) (ys := (bs.take (min (bs.length : Int) (64 - l.length)).toNat).map b8) tab_ok apb (Holds.atB (by simp) hl apl) (Holds.atB (by rw [List.length_take]; omega) (h.takeB _) (fun hx => apb' (by rintro rfl; simp at hx))) (by show (2 * (_ + _) + 192) * 1 ≤ _; omega) (fun h0 => ?_) (fun h1 b1 c1 hc1 => ?_))) | (refine QuietVC.val (fun w hw => mix_a s _ _ (l ++ bs.take (min (bs.length : Int) (64 - l.length)).toNat) (by rw [List.length_append, List.length_take]; omega) w (hks ▸ at_own (off := 0) (by repeat (first | exact List.Mem.head _ | refine List.Mem.tail _ ?_)) hw (fun i v hv => by rw [Nat.zero_add]; exact hv)) (at_own (off := 0) (by repeat (first | exact List.Mem.head _ | refine List.Mem.tail _ ?_)) hw (fun i v hv => by rw [Nat.zero_add]; rw [List.map_append] at hv; rw [List.getElem?_append_left (List.getElem?_eq_some_iff.1 hv).1]; exact hv))) ?_) | refine Pick.mk pl143_9 (by decide +kernel) ?_ | refine Pick.mk pl143_13 (by decide +kernel) ?_ | refine Pick.mk pl143_16 (by decide +kernel) ?_ | refine Need.au ?_ | (refine Split.mk (fun hsplit => ?_) (fun hsplit => ?_) <;> (try simp only [List.cons.injEq, and_true, true_and, not_true_eq_false, not_false_eq_true] at hsplit) <;> try (exfalso; omega)) | refine Pick.au ?_ | refine store_au ?_ | refine Any.mk (fun _ => ?_) | refine Both.mk ?_ ?_)); all_goals (try (conv => whnf))
  · obtain rfl : bs = [] := List.eq_nil_of_length_eq_zero (by omega)
    rw [List.append_nil, (run_short s l hl64).1, (run_short s l hl64).2]
    refine Done.mk ⟨rfl, Al, l.length, [], ⟨_, List.Perm.refl _, List.Sublist.cons _ (List.Sublist.cons_cons _ (List.Sublist.refl _))⟩, Nat.le_refl _, .old rfl fun _ h => h⟩
  · have e : (min (bs.length : Int) (64 - l.length)).toNat = bs.length := by omega
    obtain ⟨e1, e2⟩ := run_short s (l ++ bs) (by rw [List.length_append]; omega)
    rw [e1, e2, e, List.take_length, ← List.map_append, Int.toNat_natCast, ← List.length_append]
    rw [e, Int.toNat_natCast, ← List.length_append] at hc1
    exact Done.mk ⟨rfl, _, c1, _, ⟨_, List.Perm.swap _ _ _, List.Sublist.cons_cons _ (List.Sublist.cons _ (List.Sublist.cons_cons _ List.Sublist.slnil))⟩, hc1, .own b1 _ (0, 0) rfl⟩
  · rename_i tb0 _
    have hmm : (l ++ bs.take (min (bs.length : Int) (64 - l.length)).toNat).length = 64 := by rw [List.length_append, List.length_take]; omega
    have h64 : 64 ≤ (l ++ bs).length := by rw [List.length_append]; omega
    obtain ⟨e1, e2⟩ := run_long s (l ++ bs) h64
    have e3 : (l ++ bs).take 64 = l ++ bs.take (min (bs.length : Int) (64 - l.length)).toNat := by
      rw [List.take_append, List.take_of_length_le (by omega)]; congr 2; omega
    have e4 : (l ++ bs).drop 64 = bs.drop (min (bs.length : Int) (64 - l.length)).toNat := by
      rw [List.drop_append, List.drop_eq_nil_of_le (by omega), List.nil_append]; congr 1; omega
    rw [e3, e4] at e1
    rw [e4] at e2
    obtain ⟨S2, hS2⟩ : ∃ S2, S2 = s.mix (l ++ bs.take (min (bs.length : Int) (64 - l.length)).toNat) := ⟨_, rfl⟩
    obtain ⟨B2, hB⟩ : ∃ B2, B2 = bs.drop (min (bs.length : Int) (64 - l.length)).toNat := ⟨_, rfl⟩
    have hc2 : B2.length ≤ c - (min (bs.length : Int) (64 - l.length)).toNat := by rw [hB, List.length_drop]; omega
    have hB2 := h.cutB (l := (min (bs.length : Int) (64 - l.length)).toNat) hc
    rw [← hS2, ← hB] at e1
    rw [← hB] at e2 hB2
    have hk2 : bs.length - (min (bs.length : Int) (64 - l.length)).toNat = B2.length := by rw [hB, List.length_drop]
    rw [← hS2]
    rw [e1, e2]
    refine LoopVC.mk (fun m env hs => ∃ (s2 : S8) (bs2 : List B8) (A2 : Option Addr) (k cap : Nat) (lv : Value), bs2.length = m ∧ s2.run bs2 = S2.run B2 ∧ rest bs2 = rest B2 ∧ k = bs2.length ∧ bs2.length ≤ cap ∧ At w A2 (bs2.map b8) ∧
      env = [(0, .pointer (some ⟨p, 0, none⟩)), (1, .slice A2 k cap), (5, .pointer (some ⟨tb0, 0, none⟩))] ∧ hs = [⟨tb0, ks.map w32, 237, (0, 0)⟩, digE p s2 lv (n + bs.length)]) B2.length
      (Weak.mk (Sub.cons rfl (Sub.cons rfl (Sub.cons rfl Sub.nil))) (by repeat (first | exact List.Sublist.refl _ | exact List.nil_sublist _ | refine List.Sublist.cons_cons _ ?_ | refine List.Sublist.cons _ ?_)) ⟨S2, B2, _, _, _, _, rfl, rfl, rfl, hk2, hc2, hB2, rfl, rfl⟩) ?_
    rintro m env hs ⟨s2, bs2, A2, _, cap, lv, rfl, hrun, hrest, rfl, hcap, h2, rfl, rfl⟩
    repeat' ((try (conv => whnf)); (first | (refine QuietVC.val (fun w' hw' => mix_a s2 _ A2 (bs2.take 64) (by simp; omega) w' (hks ▸ at_own (off := 0) (by repeat (first | exact List.Mem.head _ | refine List.Mem.tail _ ?_)) hw' (fun i v hv => by rw [Nat.zero_add]; exact hv)) ((h2.here hw' (dig_apart hw h2 (by intro hx; have : bs2.length = 0 := (by rw [hx]; rfl); omega))).takeB 64)) ?_) | (refine AppendVC.nil tab_ok apb (Holds.atB (by simp) h2 (fun hx => dig_apart hw h2 hx)) (by show (2 * _ + 192) * 1 ≤ _; omega) (fun h0 => ?_) (fun h0 b2 c2 hc2 => ?_)) | refine store_at (by repeat (first | exact Upd.head _ | apply Upd.tail)) soft0 rfl rfl ?_ | refine Pick.mk pl143_9 (by decide +kernel) ?_ | refine Pick.mk pl143_13 (by decide +kernel) ?_ | refine Pick.mk pl143_16 (by decide +kernel) ?_ | refine Need.au ?_ | (refine Split.mk (fun hsplit => ?_) (fun hsplit => ?_) <;> (try simp only [List.cons.injEq, and_true, true_and, not_true_eq_false, not_false_eq_true] at hsplit) <;> try (exfalso; omega)) | refine Pick.au ?_ | refine store_au ?_ | refine Any.mk (fun _ => ?_) | refine Both.mk ?_ ?_)); all_goals (try (conv => whnf))
    · refine again (bs2.drop 64).length (by rw [List.length_drop]; omega) (Sub.cons rfl (Sub.cons rfl (Sub.cons rfl Sub.nil))) (List.Sublist.refl _) ⟨s2.mix (bs2.take 64), bs2.drop 64, _, _, _, _, rfl, ?_, ?_, ?_, ?_, h2.cutB hcap, rfl, rfl⟩
      · rw [← hrun, (run_long s2 bs2 (by omega)).1]
      · rw [← hrest, (run_long s2 bs2 (by omega)).2]
      · rw [List.length_drop]; rfl
      · rw [List.length_drop]; show _ - 64 ≤ cap - 64; omega
    · obtain rfl : bs2 = [] := List.eq_nil_of_length_eq_zero h0
      rw [← hrun, ← hrest, (run_short s2 [] (by decide)).1, (run_short s2 [] (by decide)).2]
      exact Done.mk ⟨rfl, none, 0, [], ⟨_, List.Perm.refl _, List.Sublist.cons _ (List.Sublist.cons_cons _ List.Sublist.slnil)⟩, Nat.le_refl _, .nil rfl rfl⟩
    · rw [← hrun, ← hrest, (run_short s2 bs2 (by omega)).1, (run_short s2 bs2 (by omega)).2]
      exact Done.mk ⟨rfl, _, c2, _, ⟨_, List.Perm.swap _ _ _, List.Sublist.cons_cons _ (List.Sublist.cons _ (List.Sublist.cons_cons _ List.Sublist.slnil))⟩, ‹_›, .own b2 _ (0, 0) rfl⟩
  · rename_i tb0
    obtain rfl : l = [] := List.eq_nil_of_length_eq_zero (by omega)
    obtain ⟨S2, hS2⟩ : ∃ S2, S2 = s := ⟨_, rfl⟩
    obtain ⟨B2, hB⟩ : ∃ B2, B2 = bs := ⟨_, rfl⟩
    have hc2 : B2.length ≤ c := by rw [hB]; exact hc
    have hB2 := h
    rw [← hB] at hB2
    have e1 : s.run ([] ++ bs) = S2.run B2 := by rw [hS2, hB]; rfl
    have e2 : rest ([] ++ bs) = rest B2 := by rw [hB]; rfl
    have hk2 : bs.length = B2.length := by rw [hB]
    subst hS2
    rw [e1, e2]
    refine LoopVC.mk (fun m env hs => ∃ (s2 : S8) (bs2 : List B8) (A2 : Option Addr) (k cap : Nat) (lv : Value), bs2.length = m ∧ s2.run bs2 = S2.run B2 ∧ rest bs2 = rest B2 ∧ k = bs2.length ∧ bs2.length ≤ cap ∧ At w A2 (bs2.map b8) ∧
      env = [(0, .pointer (some ⟨p, 0, none⟩)), (1, .slice A2 k cap), (5, .pointer (some ⟨tb0, 0, none⟩))] ∧ hs = [⟨tb0, ks.map w32, 237, (0, 0)⟩, digE p s2 lv (n + bs.length)]) B2.length
      (Weak.mk (Sub.cons rfl (Sub.cons rfl (Sub.cons rfl Sub.nil))) (by repeat (first | exact List.Sublist.refl _ | exact List.nil_sublist _ | refine List.Sublist.cons_cons _ ?_ | refine List.Sublist.cons _ ?_)) ⟨S2, B2, _, _, _, _, rfl, rfl, rfl, hk2, hc2, hB2, rfl, rfl⟩) ?_
    rintro m env hs ⟨s2, bs2, A2, _, cap, lv, rfl, hrun, hrest, rfl, hcap, h2, rfl, rfl⟩
    repeat' ((try (conv => whnf)); (first | (refine QuietVC.val (fun w' hw' => mix_a s2 _ A2 (bs2.take 64) (by simp; omega) w' (hks ▸ at_own (off := 0) (by repeat (first | exact List.Mem.head _ | refine List.Mem.tail _ ?_)) hw' (fun i v hv => by rw [Nat.zero_add]; exact hv)) ((h2.here hw' (dig_apart hw h2 (by intro hx; have : bs2.length = 0 := (by rw [hx]; rfl); omega))).takeB 64)) ?_) | (refine AppendVC.nil tab_ok apb (Holds.atB (by simp) h2 (fun hx => dig_apart hw h2 hx)) (by show (2 * _ + 192) * 1 ≤ _; omega) (fun h0 => ?_) (fun h0 b2 c2 hc2 => ?_)) | refine store_at (by repeat (first | exact Upd.head _ | apply Upd.tail)) soft0 rfl rfl ?_ | refine Pick.mk pl143_9 (by decide +kernel) ?_ | refine Pick.mk pl143_13 (by decide +kernel) ?_ | refine Pick.mk pl143_16 (by decide +kernel) ?_ | refine Need.au ?_ | (refine Split.mk (fun hsplit => ?_) (fun hsplit => ?_) <;> (try simp only [List.cons.injEq, and_true, true_and, not_true_eq_false, not_false_eq_true] at hsplit) <;> try (exfalso; omega)) | refine Pick.au ?_ | refine store_au ?_ | refine Any.mk (fun _ => ?_) | refine Both.mk ?_ ?_)); all_goals (try (conv => whnf))
    · refine again (bs2.drop 64).length (by rw [List.length_drop]; omega) (Sub.cons rfl (Sub.cons rfl (Sub.cons rfl Sub.nil))) (List.Sublist.refl _) ⟨s2.mix (bs2.take 64), bs2.drop 64, _, _, _, _, rfl, ?_, ?_, ?_, ?_, h2.cutB hcap, rfl, rfl⟩
      · rw [← hrun, (run_long s2 bs2 (by omega)).1]
      · rw [← hrest, (run_long s2 bs2 (by omega)).2]
      · rw [List.length_drop]; rfl
      · rw [List.length_drop]; show _ - 64 ≤ cap - 64; omega
    · obtain rfl : bs2 = [] := List.eq_nil_of_length_eq_zero h0
      rw [← hrun, ← hrest, (run_short s2 [] (by decide)).1, (run_short s2 [] (by decide)).2]
      exact Done.mk ⟨rfl, none, 0, [], ⟨_, List.Perm.refl _, List.Sublist.cons _ (List.Sublist.cons_cons _ List.Sublist.slnil)⟩, Nat.le_refl _, .nil rfl rfl⟩
    · rw [← hrun, ← hrest, (run_short s2 bs2 (by omega)).1, (run_short s2 bs2 (by omega)).2]
      exact Done.mk ⟨rfl, _, c2, _, ⟨_, List.Perm.swap _ _ _, List.Sublist.cons_cons _ (List.Sublist.cons _ (List.Sublist.cons_cons _ List.Sublist.slnil))⟩, ‹_›, .own b2 _ (0, 0) rfl⟩
end Go.Proofs.YtnlheljpagpiiaaGreat
