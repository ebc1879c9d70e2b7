/-
  Pebbles: stones laid down to an index; every input.
-/
import Derived.Test.YtamibdabhgnfcaaPa
set_option linter.unusedVariables false
set_option linter.unusedSimpArgs false
set_option maxRecDepth 100000
set_option maxHeartbeats 8000000
namespace Go.Proofs.Ytamibdabhgnfcaa
open Go
attribute [local irreducible] bitsOf shlOf shrOf
theorem at_KE {G : Cx} {hs : Hp} {x : KE} {w : World} (h : x.ent ∈ hs) (hw : St G hs w) : At w (some ⟨x.b, 0, none⟩) (x.l.map b8) := at_pre (r := x.r) h hw
theorem cap_KE (x : KE) : x.l.length ≤ (x.l.map b8 ++ x.r).length := by rw [List.length_append, List.length_map]; omega
structure Stn where
  i : Int
  k : KE
def Stn.cs (s : Stn) : List Value := [.int .i64 s.i, s.k.slc]
def rowC : List Stn → List Value
  | [] => []
  | s :: l => .int .i64 s.i :: s.k.slc :: rowC l
theorem rowC_len (l : List Stn) : (rowC l).length = l.length * 2 := by
  induction l with
  | nil => rfl
  | cons s l ih => simp only [rowC, List.length_cons, ih]; omega
theorem rowC_app (l m : List Stn) : rowC (l ++ m) = rowC l ++ rowC m := by
  induction l with
  | nil => rfl
  | cons s l ih => simp only [rowC, List.cons_append, ih]
def keysR (l : List Stn) : Hp := l.reverse.map fun s => s.k.ent
theorem keysR_end (l : List Stn) (s : Stn) : keysR (l ++ [s]) = s.k.ent :: keysR l := by simp [keysR]
theorem pick_end {G : Cx} {hs : Hp} {b k : Nat} {l : List Stn} {s : Stn} {ex : List Value} {t : TypeId} {fr : Nat × Nat} (hm : (⟨b, rowC (l ++ [s]) ++ ex, t, fr⟩ : Ent) ∈ hs) (hk : k = l.length) : s.cs.length = 2 ∧ G.cellsAre hs (Addr.add ⟨b, 0, none⟩ (k * 2)) s.cs := by
  subst hk
  refine ⟨rfl, fun i v hv => ?_⟩
  have hi : i < 2 := (List.getElem?_eq_some_iff.1 hv).1
  have h1 : (rowC (l ++ [s]) ++ ex)[l.length * 2 + i]? = some v := by
    rw [rowC_app, List.append_assoc, List.getElem?_append_right (by rw [rowC_len]; omega), rowC_len, Nat.add_sub_cancel_left]
    rw [List.getElem?_append_left (by show i < 2; exact hi)]
    exact hv
  rw [add_add, add_plain, Nat.zero_add]
  exact cellIs_at hm h1
theorem holds_row {G : Cx} {hs : Hp} {b L c : Nat} {l : List Stn} {ex : List Value} {t : TypeId} {fr : Nat × Nat} (hm : (⟨b, rowC l ++ ex, t, fr⟩ : Ent) ∈ hs) (hL : l.length = L) : Holds G hs 2 (.slice (some ⟨b, 0, none⟩) L c) L (rowC l) :=
  Holds.row (by rw [rowC_len, hL]) (cellsAre_at hm fun i v hv => by rw [Nat.zero_add, List.getElem?_append_left (List.getElem?_eq_some_iff.1 hv).1]; exact hv)
theorem CallVC.mutS {G : Cx} {hs : Hp} {f : Nat} {args : List Value} {K : Value → Hp → Prop} {R : Value → Hp → Prop} (pre rest : Hp) (hp : hs.Perm (pre ++ rest))
    (hc : ∀ w, St G hs w → St ⟨G.P, w, ids pre⟩ pre w → Mut G.P f args w pre fun v hs2 => ∃ L, List.Sublist L hs2 ∧ R v L) (hk : ∀ v L, R v L → K v (L ++ rest)) : CallVC G hs f args K := by
  refine ⟨K, fun w hw => (hc w hw (hw.only hp)).calls.mono ?_, fun _ _ h => h⟩
  rintro e w' ⟨v, hs2, rfl, ⟨L, hL, hr⟩, hst⟩
  exact ⟨v, L ++ rest, rfl, hk v L hr, (hw.transM hp hst).sub (hL.append_right rest)⟩
theorem aps : ApT tab 51 51 66 ty66 := ⟨⟨_, rfl, rfl⟩, rfl, ⟨_, rfl, .inr ⟨_, rfl⟩⟩, by decide⟩
/-- The way down: each at half of what is left. -/
inductive Way (i : Int) (t : Int) : List Int → Int → Prop
  | nil : Way i t [] t
  | snoc {l : List Int} {c : Int} (h : Way i t l c) (hlt : i < c) : Way i t (l ++ [i + (c - i) / 2]) (i + (c - i) / 2)
/-- Pebbles: the struct, the row of stones, their keys. -/
abbrev obj (bp br : Nat) (l : List Stn) (L C : Nat) (ex : List Value) (n told steps : Int) (cv : Value) (ce : Hp) : Hp :=
  pebE bp (.slice (some ⟨br, 0, none⟩) L C) n told steps cv :: ⟨br, rowC l ++ ex, 66, (0, 0)⟩ :: (keysR l ++ ce)
theorem perm6 (a b c d e f : Ent) (T : Hp) : List.Perm (a :: b :: c :: d :: e :: f :: T) (d :: e :: f :: c :: a :: b :: T) :=
  List.Perm.append_right T ((List.perm_append_comm (l₁ := [a, b, c]) (l₂ := [d, e, f])).trans (List.Perm.append_left [d, e, f] (List.perm_append_comm (l₁ := [a, b]) (l₂ := [c]))))
theorem reach_m (bp br : Nat) (l0 : List Stn) (t : Stn) (L C : Nat) (ex : List Value) (n told steps i : Int) (cv : Value) (ce : Hp) (key : List B8) (hkey : key.length = 16) (hL : L = l0.length + 1) (hC : L ≤ C) (hLs : L ≤ 1000) (hi : 0 ≤ i ∧ i ≤ t.i ∧ t.i ≤ n ∧ n ≤ 256) (hst : 0 ≤ steps ∧ steps ≤ 900000)
    (ht : t.k.l = stepN key (n - t.i).toNat) (w : World) (hw : St ⟨Try.prog, w, ids (obj bp br (l0 ++ [t]) L C ex n told steps cv ce)⟩ (obj bp br (l0 ++ [t]) L C ex n told steps cv ce) w) :
    Mut Try.prog 40 [.pointer (some ⟨bp, 0, none⟩), .int .i64 i] w (obj bp br (l0 ++ [t]) L C ex n told steps cv ce) fun v hs2 => ∃ H, List.Sublist H hs2 ∧ ∃ (br' : Nat) (l1 l2 : List Stn) (c : Stn) (L' C' : Nat) (ex' : List Value),
      l0 ++ [t] ++ l1 = l2 ++ [c] ∧ Way i t.i (l1.map (·.i)) c.i ∧ c.i = i ∧ (∀ s ∈ l1, s.k.l = stepN key (n - s.i).toNat) ∧ c.k.l = stepN key (n - i).toNat ∧ L' = l2.length + 1 ∧ L' ≤ C' ∧ L' ≤ 1300 ∧ v = .agg #[.int .i64 i, c.k.slc] ∧
      H = obj bp br' (l2 ++ [c]) L' C' ex' n told (steps + (t.i - i)) cv ce := by
  refine mut_vc tab_ok Try.func40 rfl rfl hw ?_
  repeat' ((try (conv => whnf)); (first | refine Pick.mk _ (pick_end (l := l0) (s := t) (ex := ex) (by repeat (first | exact List.Mem.head _ | refine List.Mem.tail _ ?_)) (by omega)) ?_ | refine Pick.mk pl40_2 (by decide +kernel) ?_ | refine Pick.mk pl40_5 (by decide +kernel) ?_ | refine Need.mk (by omega) ?_ | refine Need.mk (by decide +kernel) ?_ | refine Need.mk (by rfl) ?_ | refine Need.mk ⟨rfl, Nat.le_of_ble_eq_true rfl⟩ ?_ | (refine Split.mk (fun hsplit => ?_) (fun hsplit => ?_) <;> (try simp only [List.cons.injEq, and_true, true_and, not_true_eq_false, not_false_eq_true] at hsplit) <;> try (exfalso; omega)) | refine Pick.mk _ (fit_i64 (by omega) (by omega)) ?_ | refine Pick.mk _ (fit_u64 (by omega) (by omega)) ?_ | refine Pick.mk _ (fit_u32 (by omega) (by omega)) ?_ | refine Pick.mk _ (fit_u8 (by omega) (by omega)) ?_ | refine Pick.mk _ (quo_i64 (by omega) (by omega) (by omega)) ?_ | refine Pick.mk _ (rem_pos (by omega)) ?_ | refine Pick.mk _ (cellIs_at (by repeat (first | exact List.Mem.head _ | refine List.Mem.tail _ ?_)) rfl) ?_ | refine Pick.mk _ (cellIs_old (by assumption) (by simp)) ?_ | refine Pick.mk _ (pick_whole (by repeat (first | exact List.Mem.head _ | refine List.Mem.tail _ ?_)) (by rfl)) ?_ | refine Pick.mk _ (pick_part (by repeat (first | exact List.Mem.head _ | refine List.Mem.tail _ ?_)) (by rfl)) ?_ | refine store_at (by repeat (first | exact Upd.head _ | apply Upd.tail)) soft0 (by rfl) (by rfl) ?_ | refine Any.mk (fun _ => ?_) | refine Need.mk (List.Sublist.cons _ (List.Sublist.refl _)) ?_ | refine Need.mk (List.Sublist.refl _) ?_ | refine Both.mk ?_ ?_)); all_goals (try (conv => whnf))
  rename_i b2 b4 b6
  refine LoopVC.mk (fun m env hs => ∃ (br : Nat) (l1 l2 : List Stn) (c : Stn) (L C : Nat) (ex : List Value) (st : Int) (sl : Value), sl = .slice (some ⟨br, 0, none⟩) L C ∧ l0 ++ [t] ++ l1 = l2 ++ [c] ∧ Way i t.i (l1.map (·.i)) c.i ∧ i ≤ c.i ∧ c.i ≤ t.i ∧ (∀ s ∈ l1, s.k.l = stepN key (n - s.i).toNat) ∧ c.k.l = stepN key (n - c.i).toNat ∧
    L = l2.length + 1 ∧ L ≤ C ∧ st = steps + (t.i - c.i) ∧ m = (c.i - i).toNat ∧ (L : Int) ≤ 1000 + t.i - c.i ∧
    env = [(1, .int .i64 i), (2, .pointer (some ⟨b2, 0, none⟩)), (4, .pointer (some ⟨b4, 0, none⟩)), (5, .func (.func 49) #[] #[.pointer (some ⟨b2, 0, none⟩)]), (6, .pointer (some ⟨b6, 0, none⟩))] ∧
    hs = ⟨b6, [.int .i64 c.i, c.k.slc], 66, (0, 0)⟩ :: ⟨b4, [.int .i64 0, .slice none 0 0], 66, (0, 0)⟩ :: ⟨b2, [.pointer (some ⟨bp, 0, none⟩)], 43, (0, 0)⟩ ::
      pebE bp sl n told st cv :: ⟨br, rowC (l2 ++ [c]) ++ ex, 66, (0, 0)⟩ :: c.k.ent :: (keysR l2 ++ ce)) (t.i - i).toNat
    (Weak.mk (Sub.cons rfl (Sub.cons rfl (Sub.cons rfl (Sub.cons rfl (Sub.cons rfl Sub.nil))))) (by show List.Sublist _ (_ :: _ :: _ :: _ :: _ :: (keysR (l0 ++ [t]) ++ ce)); rw [keysR_end]; exact List.Sublist.refl _) ⟨br, [], l0, t, L, C, ex, steps, _, rfl, by simp, Way.nil, by omega, by omega, by simp, ht, hL, hC, by omega, rfl, by omega, rfl, rfl⟩) ?_
  clear hw
  rintro m env hs ⟨br, l1, l2, c, L, C, ex, st, sl, hsl, hll, hway, hic, hct, hl1, hck, hL, hC, hstt, hm, hLs, rfl, rfl⟩
  subst hsl
  have hl16 := stepN_len hkey (n - c.i).toNat
  by_cases hlt : i < c.i
  · have hq := Int.ediv_nonneg (show 0 ≤ c.i - i by omega) (show (0 : Int) ≤ 2 by omega)
    have hq2 : i ≤ i + (c.i - i) / 2 ∧ i + (c.i - i) / 2 < c.i := by omega
    obtain ⟨j, hj⟩ : ∃ j, j = i + (c.i - i) / 2 := ⟨_, rfl⟩
    repeat' ((try (conv => whnf)); (first | (refine Pick.mk _ (pick_whole (cs := [.int .i64 c.i, c.k.slc]) (List.Mem.head _) rfl) ?_) | (refine CallVC.mutS [pebE bp (.slice (some ⟨br, 0, none⟩) L C) n told st cv] _ (List.perm_middle (l₁ := [_, _, _])) (fun w2 h2 h3 => by
      have hnd := h2.nodup
      simp only [List.map_cons, List.nodup_cons, List.mem_cons, not_or] at hnd
      exact walk_m bp b2 (.slice (some ⟨br, 0, none⟩) L C) n told st cv c.i (i + (c.i - i) / 2) (some ⟨c.k.b, 0, none⟩) c.k.l _ (by rw [hck]; exact hl16) (cap_KE c.k) (by omega) (by omega) (by omega) (by omega) hnd.2.2.1.1 w2 (at_KE (by repeat (first | exact List.Mem.head _ | refine List.Mem.tail _ ?_)) h2) (at_ent (by repeat (first | exact List.Mem.head _ | refine List.Mem.tail _ ?_)) h2) (fun a ha => by cases ha; exact fun e => hnd.2.2.2.1.2.1 e.symm) h3) ?_; rintro v H ⟨x, hx1, hx2, rfl, rfl⟩) | (rw [slice_cut0]; refine AppendVC.full (ys := [.int .i64 (i + (c.i - i) / 2), x.slc]) tab_ok aps (holds_row (l := l2 ++ [c]) (by repeat (first | exact List.Mem.head _ | refine List.Mem.tail _ ?_)) (by simp; omega)) (Holds.row rfl (cellsAre_whole (by repeat (first | exact List.Mem.head _ | refine List.Mem.tail _ ?_)))) (by show (2 * (_ + 1) + 192) * 32 ≤ _; omega) (fun h0 => by cases h0) (fun _ b7 c7 hc7 => ?_)) | refine Pick.mk pl40_2 (by decide +kernel) ?_ | refine Pick.mk pl40_5 (by decide +kernel) ?_ | refine Need.mk (by omega) ?_ | refine Need.mk (by decide +kernel) ?_ | refine Need.mk (by rfl) ?_ | refine Need.mk ⟨rfl, Nat.le_of_ble_eq_true rfl⟩ ?_ | (refine Split.mk (fun hsplit => ?_) (fun hsplit => ?_) <;> (try simp only [List.cons.injEq, and_true, true_and, not_true_eq_false, not_false_eq_true] at hsplit) <;> try (exfalso; omega)) | refine Pick.mk _ (fit_i64 (by omega) (by omega)) ?_ | refine Pick.mk _ (fit_u64 (by omega) (by omega)) ?_ | refine Pick.mk _ (fit_u32 (by omega) (by omega)) ?_ | refine Pick.mk _ (fit_u8 (by omega) (by omega)) ?_ | refine Pick.mk _ (quo_i64 (by omega) (by omega) (by omega)) ?_ | refine Pick.mk _ (rem_pos (by omega)) ?_ | refine Pick.mk _ (cellIs_at (by repeat (first | exact List.Mem.head _ | refine List.Mem.tail _ ?_)) rfl) ?_ | refine Pick.mk _ (cellIs_old (by assumption) (by simp)) ?_ | refine Pick.mk _ (pick_whole (by repeat (first | exact List.Mem.head _ | refine List.Mem.tail _ ?_)) (by rfl)) ?_ | refine Pick.mk _ (pick_part (by repeat (first | exact List.Mem.head _ | refine List.Mem.tail _ ?_)) (by rfl)) ?_ | refine store_at (by repeat (first | exact Upd.head _ | apply Upd.tail)) soft0 (by rfl) (by rfl) ?_ | refine Any.mk (fun _ => ?_) | refine Need.mk (List.Sublist.cons _ (List.Sublist.refl _)) ?_ | refine Need.mk (List.Sublist.refl _) ?_ | refine Both.mk ?_ ?_)); all_goals (try (conv => whnf))
    have e0 : (L : Int).toNat + 1 = l2.length + 1 + 1 := by omega
    obtain ⟨y, hy⟩ : ∃ y : Stn, y = ⟨i + (c.i - i) / 2, x⟩ := ⟨_, rfl⟩
    have yi : y.i = i + (c.i - i) / 2 := by rw [hy]
    have e1 : rowC (l2 ++ [c] ++ [y]) = rowC (l2 ++ [c]) ++ [.int .i64 (i + (c.i - i) / 2), x.slc] := by rw [rowC_app (l2 ++ [c]), hy]; rfl
    have e2 : y.k.l = stepN key (n - y.i).toNat := by
      rw [yi, show y.k = x by rw [hy], hx1, hck, stepN_add]
      congr 1
      omega
    have hway2 := hway.snoc hlt
    rw [← yi] at hway2
    refine ⟨(y.i - i).toNat, by omega, _, ⟨b6, [.int .i64 y.i, y.k.slc], 66, (0, 0)⟩ :: ⟨b4, [.int .i64 0, .slice none 0 0], 66, (0, 0)⟩ :: ⟨b2, [.pointer (some ⟨bp, 0, none⟩)], 43, (0, 0)⟩ ::
      pebE bp (.slice (some ⟨b7, 0, none⟩) ((L : Int).toNat + 1) c7) n told (st + (c.i - y.i)) cv :: ⟨b7, rowC (l2 ++ [c] ++ [y]) ++ zerosL (c7 - ((L : Int).toNat + 1)) ty66.zero, 66, (0, 0)⟩ :: y.k.ent :: (keysR (l2 ++ [c]) ++ ce), Sub.cons rfl (Sub.cons rfl (Sub.cons rfl (Sub.cons rfl (Sub.cons rfl Sub.nil)))), fun w hw => ?_,
      ⟨b7, l1 ++ [y], l2 ++ [c], y, _, c7, _, _, _, rfl, by rw [← hll]; simp, by rw [List.map_append]; exact hway2, by omega, by omega, ?_, e2, by rw [e0]; simp, hc7, by omega, rfl, by omega, rfl, rfl⟩⟩
    · rw [e1, keysR_end]
      subst hy
      have h1 := hw.sub (hs' := _ :: _ :: _ :: _ :: _ :: _ :: _) (List.Sublist.cons_cons _ (List.Sublist.cons _ (List.Sublist.cons_cons _ (List.Sublist.cons_cons _ (List.Sublist.cons_cons _ (List.Sublist.cons_cons _ (List.Sublist.cons_cons _ (List.Sublist.cons _ (List.Sublist.refl _)))))))))
      exact h1.perm (perm6 _ _ _ _ _ _ _)
    · intro s hm2
      rcases List.mem_append.1 hm2 with hm2 | hm2
      · exact hl1 s hm2
      · obtain rfl := List.mem_singleton.1 hm2
        exact e2
  · obtain rfl : i = c.i := by omega
    repeat' ((try (conv => whnf)); (first | (refine Pick.mk _ (pick_whole (cs := [.int .i64 c.i, c.k.slc]) (List.Mem.head _) rfl) ?_) | refine Pick.mk pl40_2 (by decide +kernel) ?_ | refine Pick.mk pl40_5 (by decide +kernel) ?_ | refine Need.mk (by omega) ?_ | refine Need.mk (by decide +kernel) ?_ | refine Need.mk (by rfl) ?_ | refine Need.mk ⟨rfl, Nat.le_of_ble_eq_true rfl⟩ ?_ | (refine Split.mk (fun hsplit => ?_) (fun hsplit => ?_) <;> (try simp only [List.cons.injEq, and_true, true_and, not_true_eq_false, not_false_eq_true] at hsplit) <;> try (exfalso; omega)) | refine Pick.mk _ (fit_i64 (by omega) (by omega)) ?_ | refine Pick.mk _ (fit_u64 (by omega) (by omega)) ?_ | refine Pick.mk _ (fit_u32 (by omega) (by omega)) ?_ | refine Pick.mk _ (fit_u8 (by omega) (by omega)) ?_ | refine Pick.mk _ (quo_i64 (by omega) (by omega) (by omega)) ?_ | refine Pick.mk _ (rem_pos (by omega)) ?_ | refine Pick.mk _ (cellIs_at (by repeat (first | exact List.Mem.head _ | refine List.Mem.tail _ ?_)) rfl) ?_ | refine Pick.mk _ (cellIs_old (by assumption) (by simp)) ?_ | refine Pick.mk _ (pick_whole (by repeat (first | exact List.Mem.head _ | refine List.Mem.tail _ ?_)) (by rfl)) ?_ | refine Pick.mk _ (pick_part (by repeat (first | exact List.Mem.head _ | refine List.Mem.tail _ ?_)) (by rfl)) ?_ | refine store_at (by repeat (first | exact Upd.head _ | apply Upd.tail)) soft0 (by rfl) (by rfl) ?_ | refine Any.mk (fun _ => ?_) | refine Need.mk (List.Sublist.cons _ (List.Sublist.refl _)) ?_ | refine Need.mk (List.Sublist.refl _) ?_ | refine Both.mk ?_ ?_)); all_goals (try (conv => whnf))
    refine Done.mk ⟨pebE bp (.slice (some ⟨br, 0, none⟩) L C) n told st cv :: ⟨br, rowC (l2 ++ [c]) ++ ex, 66, (0, 0)⟩ :: c.k.ent :: (keysR l2 ++ ce), List.Sublist.cons _ (List.Sublist.cons _ (List.Sublist.cons _ (List.Sublist.refl _))), br, l1, l2, c, L, C, ex, hll, hway, rfl, hl1, hck, hL, hC, by omega, rfl, ?_⟩
    rw [← hstt]
    show _ = _ :: _ :: (keysR (l2 ++ [c]) ++ ce)
    rw [keysR_end]
    rfl
end Go.Proofs.Ytamibdabhgnfcaa
