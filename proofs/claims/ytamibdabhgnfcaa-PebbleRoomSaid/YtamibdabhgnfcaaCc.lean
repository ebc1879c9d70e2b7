/-
  All keys of a chain, in the program and in the document; every input.
-/
import Derived.Test.YtamibdabhgnfcaaCb
set_option linter.unusedVariables false
set_option linter.unusedSimpArgs false
set_option maxRecDepth 100000
set_option maxHeartbeats 8000000
namespace Go.Proofs.Ytamibdabhgnfcaa
open Go
attribute [local irreducible] bitsOf shlOf shrOf
def sSeed : ByteArray := ⟨#[115, 101, 101, 100]⟩
def sEpoch : ByteArray := ⟨#[101, 112, 111, 99, 104]⟩
theorem seed_ok : labelOk (strB sSeed) = true := by decide
/-- The key that a chain is made of. -/
def lastK (seed : List B8) : List B8 := expand seed (infoOf sSeed []) 16
theorem lastK_len (seed : List B8) : (lastK seed).length = 16 := expand_len _ _ _
theorem lastK_key {seed : List B8} (h : seed.length = 16) : kdfKey seed sSeed [] = (lastK seed, 0) := kdfKey_ok seed_ok (by decide) (by omega)
def lastOf (seed : List B8) (n : Int) : List B8 × Int := if seed.length = 16 ∧ 1 ≤ n ∧ n ≤ 256 then (lastK seed, 0) else ([], 1)
theorem last_r (A : Option Addr) (seed : List B8) (ck : Nat) (n : Int) (hck : seed.length ≤ ck) (w : World) (hA : At w A (seed.map b8)) :
    Ret Try.prog 32 [.slice A seed.length ck, .int .i64 n] w (GivesX (lastOf seed n).1 (lastOf seed n).2) := by
  unfold lastOf
  by_cases h : seed.length = 16 ∧ 1 ≤ n ∧ n ≤ 256
  · rw [if_pos h]
    obtain ⟨hl, hn1, hn2⟩ := h
    refine ret_vc tab_ok Try.func32 rfl rfl ?_
    repeat' ((try (conv => whnf)); (first | (refine CallVC.givesX (xs := lastK seed) (e := 0) (fun w2 h2 => by have := key_r A seed ck sSeed none [] 0 hck (by decide) (by decide) w2 (hA.here h2 (fun _ _ => by simp)) At.nil; rw [lastK_key hl] at this; exact this) (fun A' c' E hl hO => ?_)) | refine Need.mk (by omega) ?_ | refine Need.mk (by decide +kernel) ?_ | refine Need.mk (by rfl) ?_ | refine Need.mk ⟨rfl, Nat.le_of_ble_eq_true rfl⟩ ?_ | (refine Split.mk (fun hsplit => ?_) (fun hsplit => ?_) <;> (try simp only [List.cons.injEq, and_true, true_and, not_true_eq_false, not_false_eq_true] at hsplit) <;> try (exfalso; omega)) | refine Pick.mk _ (fit_i64 (by omega) (by omega)) ?_ | refine Pick.mk _ (fit_u64 (by omega) (by omega)) ?_ | refine Pick.mk _ (fit_u32 (by omega) (by omega)) ?_ | refine Pick.mk _ (fit_u8 (by omega) (by omega)) ?_ | refine Pick.mk _ (quo_i64 (by omega) (by omega) (by omega)) ?_ | refine Pick.mk _ (rem_pos (by omega)) ?_ | refine Pick.mk _ (cellIs_at (by repeat (first | exact List.Mem.head _ | refine List.Mem.tail _ ?_)) rfl) ?_ | refine Pick.mk _ (cellIs_old (by assumption) (by simp)) ?_ | refine Pick.mk _ (pick_whole (by repeat (first | exact List.Mem.head _ | refine List.Mem.tail _ ?_)) (by rfl)) ?_ | refine Pick.mk _ (pick_part (by repeat (first | exact List.Mem.head _ | refine List.Mem.tail _ ?_)) (by rfl)) ?_ | refine store_at (by repeat (first | exact Upd.head _ | apply Upd.tail)) soft0 (by rfl) (by rfl) ?_ | refine Any.mk (fun _ => ?_) | refine Need.mk (List.Sublist.cons _ (List.Sublist.refl _)) ?_ | refine Need.mk (List.Sublist.refl _) ?_ | refine Both.mk ?_ ?_)); all_goals (try (conv => whnf))
    exact Done.mk ⟨_, _, _, rfl, hl, hO, List.sublist_append_left _ _⟩
  · rw [if_neg h]
    refine ret_vc tab_ok Try.func32 rfl rfl ?_
    repeat' ((try (conv => whnf)); (first | refine Need.mk (by omega) ?_ | refine Need.mk (by decide +kernel) ?_ | refine Need.mk (by rfl) ?_ | refine Need.mk ⟨rfl, Nat.le_of_ble_eq_true rfl⟩ ?_ | (refine Split.mk (fun hsplit => ?_) (fun hsplit => ?_) <;> (try simp only [List.cons.injEq, and_true, true_and, not_true_eq_false, not_false_eq_true] at hsplit) <;> try (exfalso; omega)) | refine Pick.mk _ (fit_i64 (by omega) (by omega)) ?_ | refine Pick.mk _ (fit_u64 (by omega) (by omega)) ?_ | refine Pick.mk _ (fit_u32 (by omega) (by omega)) ?_ | refine Pick.mk _ (fit_u8 (by omega) (by omega)) ?_ | refine Pick.mk _ (quo_i64 (by omega) (by omega) (by omega)) ?_ | refine Pick.mk _ (rem_pos (by omega)) ?_ | refine Pick.mk _ (cellIs_at (by repeat (first | exact List.Mem.head _ | refine List.Mem.tail _ ?_)) rfl) ?_ | refine Pick.mk _ (cellIs_old (by assumption) (by simp)) ?_ | refine Pick.mk _ (pick_whole (by repeat (first | exact List.Mem.head _ | refine List.Mem.tail _ ?_)) (by rfl)) ?_ | refine Pick.mk _ (pick_part (by repeat (first | exact List.Mem.head _ | refine List.Mem.tail _ ?_)) (by rfl)) ?_ | refine store_at (by repeat (first | exact Upd.head _ | apply Upd.tail)) soft0 (by rfl) (by rfl) ?_ | refine Any.mk (fun _ => ?_) | refine Need.mk (List.Sublist.cons _ (List.Sublist.refl _)) ?_ | refine Need.mk (List.Sublist.refl _) ?_ | refine Both.mk ?_ ?_)); all_goals (try (conv => whnf))
    all_goals exact Done.mk GivesX.no
/-- A key in a block. -/
structure KE where
  b : Nat
  l : List B8
  r : List Value
  fr : Nat × Nat
def KE.slc (x : KE) : Value := .slice (some ⟨x.b, 0, none⟩) x.l.length (x.l.map b8 ++ x.r).length
def KE.ent (x : KE) : Ent := ⟨x.b, x.l.map b8 ++ x.r, 5, x.fr⟩
/-- So many keys, the last one first. -/
def downK (key : List B8) : Nat → List (List B8)
  | 0 => []
  | i + 1 => stepN key i :: downK key i
theorem downK_len (key : List B8) (n : Nat) : (downK key n).length = n := by
  induction n with
  | zero => rfl
  | succ n ih => rw [downK, List.length_cons, ih]
theorem downK_at (key : List B8) (n m : Nat) (h : m < n) : (downK key n)[m]? = some (stepN key (n - 1 - m)) := by
  induction n generalizing m with
  | zero => omega
  | succ n ih =>
    cases m with
    | zero => rfl
    | succ m => rw [downK, List.getElem?_cons_succ, ih m (by omega)]; congr 2; omega
abbrev nilS : Value := .slice none 0 0
/-- The row on the way. -/
def cellsK (n : Nat) (es : List KE) : List Value := List.replicate (n - es.length) nilS ++ es.map KE.slc
theorem cellsK_len {n : Nat} {es : List KE} (h : es.length ≤ n) : (cellsK n es).length = n := by unfold cellsK; simp; omega
theorem cellsK_set {n : Nat} {es : List KE} (x : KE) (h : es.length < n) : (cellsK n es).set (n - 1 - es.length) x.slc = cellsK n (x :: es) := by
  unfold cellsK
  obtain ⟨m, hm⟩ : ∃ m, n - es.length = m + 1 := ⟨n - es.length - 1, by omega⟩
  rw [hm, show n - 1 - es.length = m by omega, List.length_cons, show n - (es.length + 1) = m by omega, List.replicate_succ', List.append_assoc]
  rw [List.set_append_right _ _ (by simp)]
  simp
/-- All keys, with no error. -/
def GivesK (ks : List (List B8)) (v : Value) (hs : Hp) : Prop := ∃ (b : Nat) (es : List KE), v = .tuple #[.slice (some ⟨b, 0, none⟩) ks.length ks.length, .int .i64 0] ∧ (⟨b, es.map KE.slc, 22, (0, 0)⟩ : Ent) ∈ hs ∧ es.map KE.l = ks ∧ ∀ x ∈ es, x.ent ∈ hs ∧ Soft x.fr x.ent.cs.length
theorem St.addAll {G : Cx} {hs : Hp} {w : World} (h : St G hs w) {n0 : Nat} (hn0 : G.w0.heap.size ≤ n0) (hlt : ∀ b ∈ ids hs, b < n0) : ∀ (es : List KE), (∀ x ∈ es, KeyIn n0 w x.l x.b x.r x.fr) → ∃ L, St G (L ++ hs) w ∧ ∀ x ∈ es, x.ent ∈ L
  | [], _ => ⟨[], h, by simp⟩
  | x :: es, hx => by
    obtain ⟨L, hL, hm⟩ := St.addAll h hn0 hlt es fun y hy => hx y (List.Mem.tail _ hy)
    have hk := hx x (List.Mem.head _)
    by_cases hb : x.b ∈ ids L
    · obtain ⟨y, hy, hyb⟩ := List.mem_map.1 hb
      have h1 := hL.own y (List.mem_append_left _ hy)
      rw [hyb, hk.own] at h1
      obtain ⟨yb, ycs, yt, yfr⟩ := y
      simp only [Option.some.injEq, Obj.cells.injEq, Array.mk.injEq] at h1 hyb
      obtain ⟨e1, e2, e3⟩ := h1
      have : x.ent ∈ L := by
        unfold KE.ent
        rw [e1, ← hyb]
        subst e2 e3
        exact hy
      exact ⟨L, hL, fun z hz => by
        rcases List.mem_cons.1 hz with rfl | hz
        · exact this
        · exact hm z hz⟩
    · refine ⟨x.ent :: L, hL.add hk.own (Nat.le_trans hn0 hk.new) (fun hmm => ?_), fun z hz => ?_⟩
      · rcases List.mem_append.1 (show x.b ∈ L.map (·.b) ++ hs.map (·.b) by rw [← List.map_append]; exact hmm) with h1 | h1
        · exact hb h1
        · have := hlt _ h1; have := hk.new; omega
      · rcases List.mem_cons.1 hz with rfl | hz
        · exact List.Mem.head _
        · exact List.Mem.tail _ (hm z hz)
theorem upd_end {e e' : Ent} (hb : e.b = e'.b) : ∀ (L : Hp), Upd e e' (L ++ [e]) (L ++ [e'])
  | [] => Upd.head _
  | x :: L => Upd.tail _ (upd_end hb L)
theorem all_r (A : Option Addr) (seed : List B8) (ck : Nat) (n : Int) (hl : seed.length = 16) (hn : 1 ≤ n ∧ n ≤ 256) (hck : seed.length ≤ ck) (w : World) (hA : At w A (seed.map b8)) :
    Ret Try.prog 14 [.slice A seed.length ck, .int .i64 n] w (GivesK (downK (lastK seed) (n.toNat + 1))) := by
  have hkl := lastK_len seed
  have hlo : lastOf seed n = (lastK seed, 0) := by unfold lastOf; rw [if_pos ⟨hl, hn⟩]
  refine ret_marks Try.func14 rfl rfl ?_
  intro a hf hw
  refine chain_sound tab_ok 4 _ _ [] _ _ (K := fun env hs => Done (∃ bn bo bx bk rk frk c, c = ((lastK seed).map b8 ++ rk).length ∧ Sub [(3, .pointer (some ⟨bn, 0, none⟩)), (6, .slice (some ⟨bk, 0, none⟩) 16 c), (8, .pointer (some ⟨bx, 0, none⟩))] env ∧
    List.Sublist [⟨bx, [.slice (some ⟨bo, 0, none⟩) (n.toNat + 1) (n.toNat + 1)], 29, (0, 0)⟩, ⟨bo, cellsK (n.toNat + 1) [], 22, (0, 0)⟩, ⟨bk, (lastK seed).map b8 ++ rk, 5, frk⟩, ⟨bn, [.int .i64 n], 3, (0, 0)⟩] hs)) (X := fun _ _ _ => False)
    (R := retK ⟨Try.prog, w, []⟩ tab Try.f14.results.toList fun v hs => Done (GivesK (downK (lastK seed) (n.toNat + 1)) v hs)) ?_ ?_ (fun _ _ _ _ _ h => h.elim) (fun env hs a w hk hf hw => ahead_ret tab_ok hk hf hw) hf hw
  · repeat' ((try (conv => whnf)); (first | (refine CallVC.givesXP (xs := lastK seed) (e := 0) (fun w2 h2 => by have := last_r A seed ck n hck w2 (hA.here h2 (fun _ _ => by simp)); rw [hlo] at this; exact this) hkl (by omega) (fun bk rk frk c hc hfk => ?_)) | refine Need.mk ⟨by omega, by omega, by show (n + 1) * 24 ≤ _; omega, by decide⟩ ?_ | refine Need.mk (by omega) ?_ | refine Need.mk (by decide +kernel) ?_ | refine Need.mk (by rfl) ?_ | refine Need.mk ⟨rfl, Nat.le_of_ble_eq_true rfl⟩ ?_ | (refine Split.mk (fun hsplit => ?_) (fun hsplit => ?_) <;> (try simp only [List.cons.injEq, and_true, true_and, not_true_eq_false, not_false_eq_true] at hsplit) <;> try (exfalso; omega)) | refine Pick.mk _ (fit_i64 (by omega) (by omega)) ?_ | refine Pick.mk _ (fit_u64 (by omega) (by omega)) ?_ | refine Pick.mk _ (fit_u32 (by omega) (by omega)) ?_ | refine Pick.mk _ (fit_u8 (by omega) (by omega)) ?_ | refine Pick.mk _ (quo_i64 (by omega) (by omega) (by omega)) ?_ | refine Pick.mk _ (rem_pos (by omega)) ?_ | refine Pick.mk _ (cellIs_at (by repeat (first | exact List.Mem.head _ | refine List.Mem.tail _ ?_)) rfl) ?_ | refine Pick.mk _ (cellIs_old (by assumption) (by simp)) ?_ | refine Pick.mk _ (pick_whole (by repeat (first | exact List.Mem.head _ | refine List.Mem.tail _ ?_)) (by rfl)) ?_ | refine Pick.mk _ (pick_part (by repeat (first | exact List.Mem.head _ | refine List.Mem.tail _ ?_)) (by rfl)) ?_ | refine store_at (by repeat (first | exact Upd.head _ | apply Upd.tail)) soft0 (by rfl) (by rfl) ?_ | refine Any.mk (fun _ => ?_) | refine Need.mk (List.Sublist.cons _ (List.Sublist.refl _)) ?_ | refine Need.mk (List.Sublist.refl _) ?_ | refine Both.mk ?_ ?_)); all_goals (try (conv => whnf))
    all_goals first | exact absurd rfl (by assumption) | skip
    rename_i bn bo bx
    have e1 : (n + 1).toNat = n.toNat + 1 := by omega
    rw [e1]
    refine Done.mk ⟨bn, bo, bx, bk, rk, frk, c, hc, Sub.cons rfl (Sub.cons rfl (Sub.cons rfl Sub.nil)), ?_⟩
    have e2 : cellsK (n.toNat + 1) [] = zerosL (n.toNat + 1) ty22.zero := by unfold cellsK; rw [List.map_nil, List.append_nil]; rfl
    rw [e2]
    exact List.Sublist.refl _
  clear hf hw
  intro env hs a w1 hk hf hw1
  obtain ⟨bn, bo, bx, bk, rk, frk, c, hc, hsub, hsl⟩ := hk.out
  replace hf := hf.sub hsub
  replace hw1 := (hw1.sub hsl).perm (((List.Perm.swap _ _ _).trans (List.Perm.cons _ (List.Perm.swap _ _ _))).trans (List.Perm.swap _ _ _))
  clear hk hsub hsl
  refine wpIn_seq ?_
  refine chain_sound tab_ok 1 _ _ _ _ _ (K := fun env hs => Done (∃ b1, Sub [(3, .pointer (some ⟨bn, 0, none⟩)), (8, .pointer (some ⟨bx, 0, none⟩)), (24, .func (.func 42) #[] #[.pointer (some ⟨b1, 0, none⟩)])] env ∧
    List.Sublist ([⟨b1, [.slice (some ⟨bk, 0, none⟩) 16 c], 22, (0, 0)⟩, ⟨bk, (lastK seed).map b8 ++ rk, 5, frk⟩] ++ [⟨bo, cellsK (n.toNat + 1) [], 22, (0, 0)⟩, ⟨bx, [.slice (some ⟨bo, 0, none⟩) (n.toNat + 1) (n.toNat + 1)], 29, (0, 0)⟩, ⟨bn, [.int .i64 n], 3, (0, 0)⟩]) hs)) (X := fun _ _ _ => False) (R := fun _ _ => False) ?_ ?_ (fun _ _ _ _ _ h => h.elim) (fun _ _ _ _ h => h.elim) hf hw1
  · repeat' ((try (conv => whnf)); (first | refine CallVC.of (fun w2 h2 => back_r (some ⟨bk, 0, none⟩) 16 c w2) ?_ | rintro _ _ ⟨b1, rfl, rfl⟩ | refine Need.mk (by omega) ?_ | refine Need.mk (by decide +kernel) ?_ | refine Need.mk (by rfl) ?_ | refine Need.mk ⟨rfl, Nat.le_of_ble_eq_true rfl⟩ ?_ | (refine Split.mk (fun hsplit => ?_) (fun hsplit => ?_) <;> (try simp only [List.cons.injEq, and_true, true_and, not_true_eq_false, not_false_eq_true] at hsplit) <;> try (exfalso; omega)) | refine Pick.mk _ (fit_i64 (by omega) (by omega)) ?_ | refine Pick.mk _ (fit_u64 (by omega) (by omega)) ?_ | refine Pick.mk _ (fit_u32 (by omega) (by omega)) ?_ | refine Pick.mk _ (fit_u8 (by omega) (by omega)) ?_ | refine Pick.mk _ (quo_i64 (by omega) (by omega) (by omega)) ?_ | refine Pick.mk _ (rem_pos (by omega)) ?_ | refine Pick.mk _ (cellIs_at (by repeat (first | exact List.Mem.head _ | refine List.Mem.tail _ ?_)) rfl) ?_ | refine Pick.mk _ (cellIs_old (by assumption) (by simp)) ?_ | refine Pick.mk _ (pick_whole (by repeat (first | exact List.Mem.head _ | refine List.Mem.tail _ ?_)) (by rfl)) ?_ | refine Pick.mk _ (pick_part (by repeat (first | exact List.Mem.head _ | refine List.Mem.tail _ ?_)) (by rfl)) ?_ | refine store_at (by repeat (first | exact Upd.head _ | apply Upd.tail)) soft0 (by rfl) (by rfl) ?_ | refine Any.mk (fun _ => ?_) | refine Need.mk (List.Sublist.cons _ (List.Sublist.refl _)) ?_ | refine Need.mk (List.Sublist.refl _) ?_ | refine Both.mk ?_ ?_)); all_goals (try (conv => whnf))
    exact Done.mk ⟨b1, Sub.cons rfl (Sub.cons rfl (Sub.cons rfl Sub.nil)), List.Sublist.refl _⟩
  clear hf hw1
  intro env hs a w2 hk hf hw2
  obtain ⟨b1, hsub, hsl⟩ := hk.out
  replace hf := hf.sub hsub
  have hA2 : At w2 (some ⟨bk, 0, none⟩) ((lastK seed).map b8) := at_pre (List.Mem.tail _ (List.Mem.head _)) (hw2.sub hsl)
  have hw3 := (hw2.sub hsl).sub (List.sublist_append_right _ _)
  have hh1 : At w2 (some ⟨b1, 0, none⟩) [.slice (some ⟨bk, 0, none⟩) (lastK seed).length c] := hkl ▸ at_ent (List.Mem.head _) (hw2.sub hsl)
  have hlt : ∀ b ∈ [bo, bx, bn], b < w2.heap.size := ids_lt hw3
  have hw0 := hw2.size
  clear hk hsub hsl hw2
  refine wpIn_block (rangeFunc_vc tab_ok hf hw3 rfl ?_ (fp := [bo, bx, bn]) (lim := False) (N := n.toNat + 1) (El := keyEl w2.heap.size (lastK seed))
    (fun i hs W => i ≤ n.toNat ∧ ∃ es : List KE, es.length = i ∧ es.map KE.l = downK (lastK seed) i ∧ (∀ x ∈ es, KeyIn w2.heap.size W x.l x.b x.r x.fr) ∧
      hs = [⟨bo, cellsK (n.toNat + 1) es, 22, (0, 0)⟩, ⟨bx, [.slice (some ⟨bo, 0, none⟩) (n.toNat + 1) (n.toNat + 1)], 29, (0, 0)⟩, ⟨bn, [.int .i64 n], 3, (0, 0)⟩])
    (fun c hs W => c = .exit 0 ∧ ∃ es : List KE, es.map KE.l = downK (lastK seed) (n.toNat + 1) ∧ (∀ x ∈ es, KeyIn w2.heap.size W x.l x.b x.r x.fr) ∧
      hs = [⟨bo, es.map KE.slc, 22, (0, 0)⟩, ⟨bx, [.slice (some ⟨bo, 0, none⟩) (n.toNat + 1) (n.toNat + 1)], 29, (0, 0)⟩, ⟨bn, [.int .i64 n], 3, (0, 0)⟩])
    (fun _ hs A h => by have := h.1; omega) ?_ ?_ ?_ ?_ ?_ ?_ ?_ ?_ (fun vs => [(3, .pointer (some ⟨bn, 0, none⟩)), (8, .pointer (some ⟨bx, 0, none⟩)), (9, vs.getD 0 undef), (10, vs.getD 1 undef)]) ?_ ?_ ?_ ?_)
  · exact fun args w => callFunc_run (tab_ok.fns _ (by rfl))
  · rintro i hs C D ⟨hi, es, he, hes, hk, rfl⟩ hkk
    exact ⟨hi, es, he, hes, fun x hx => (hk x hx).kept hkk (by simp), rfl⟩
  · rintro c hs C D ⟨rfl, es, hes, hk, rfl⟩ hkk
    exact ⟨rfl, es, hes, fun x hx => (hk x hx).kept hkk (by simp), rfl⟩
  · rintro i hs A ⟨_, es, _, _, _, rfl⟩ b hm
    exact hm
  · rintro i C D vs ⟨b, r, fr, c, rfl, hc, hk⟩ hkk
    exact ⟨b, r, fr, c, rfl, hc, hk.kept hkk (by simp)⟩
  · rintro i C vs ⟨b, r, fr, c, rfl, _⟩
    rfl
  · intro p hp
    have : p = 25 ∨ p = 26 := by simpa using hp
    rcases this with rfl | rfl <;> decide
  · exact ⟨Nat.zero_le _, [], rfl, rfl, by simp, rfl⟩
  · intro W1 hk hst hsz
    exact back_iter [bo, bx, bn] w2.heap.size b1 (some ⟨bk, 0, none⟩) (lastK seed) c _ (by omega) hkl (by rw [hc, List.length_append, List.length_map]; omega) W1 hsz ⟨hh1.kept hk (by simp), hA2.kept hk (by simp), hlt⟩
  · rintro i C vs ⟨b, r, fr, c, rfl, hc, hk⟩
    repeat' ((try (conv => whnf)); (first | refine Need.mk (by omega) ?_ | refine Need.mk (by decide +kernel) ?_ | refine Need.mk (by rfl) ?_ | refine Need.mk ⟨rfl, Nat.le_of_ble_eq_true rfl⟩ ?_ | (refine Split.mk (fun hsplit => ?_) (fun hsplit => ?_) <;> (try simp only [List.cons.injEq, and_true, true_and, not_true_eq_false, not_false_eq_true] at hsplit) <;> try (exfalso; omega)) | refine Pick.mk _ (fit_i64 (by omega) (by omega)) ?_ | refine Pick.mk _ (fit_u64 (by omega) (by omega)) ?_ | refine Pick.mk _ (fit_u32 (by omega) (by omega)) ?_ | refine Pick.mk _ (fit_u8 (by omega) (by omega)) ?_ | refine Pick.mk _ (quo_i64 (by omega) (by omega) (by omega)) ?_ | refine Pick.mk _ (rem_pos (by omega)) ?_ | refine Pick.mk _ (cellIs_at (by repeat (first | exact List.Mem.head _ | refine List.Mem.tail _ ?_)) rfl) ?_ | refine Pick.mk _ (cellIs_old (by assumption) (by simp)) ?_ | refine Pick.mk _ (pick_whole (by repeat (first | exact List.Mem.head _ | refine List.Mem.tail _ ?_)) (by rfl)) ?_ | refine Pick.mk _ (pick_part (by repeat (first | exact List.Mem.head _ | refine List.Mem.tail _ ?_)) (by rfl)) ?_ | refine store_at (by repeat (first | exact Upd.head _ | apply Upd.tail)) soft0 (by rfl) (by rfl) ?_ | refine Any.mk (fun _ => ?_) | refine Need.mk (List.Sublist.cons _ (List.Sublist.refl _)) ?_ | refine Need.mk (List.Sublist.refl _) ?_ | refine Both.mk ?_ ?_)); all_goals (try (conv => whnf))
    exact Done.mk (Sub.cons rfl (Sub.cons rfl (Sub.cons rfl (Sub.cons rfl Sub.nil))))
  · rintro i C vs hs hi ⟨hin, es, he, hes, hks, rfl⟩ hst ⟨b, r, fr, c, rfl, hc, hk⟩
    have hl16 := stepN_len hkl i
    obtain ⟨x, hx⟩ : ∃ x : KE, x = ⟨b, stepN (lastK seed) i, r, fr⟩ := ⟨_, rfl⟩
    have hxs : (Value.slice (some ⟨b, 0, none⟩) 16 c) = x.slc := by subst hx; unfold KE.slc; rw [hl16, hc]
    have hxk : KeyIn w2.heap.size C x.l x.b x.r x.fr := by subst hx; exact hk
    have hxl : x.l = stepN (lastK seed) i := by subst hx; rfl
    have hcl := cellsK_len (n := n.toNat + 1) (es := es) (by omega)
    rw [hxs]
    have hset := cellsK_set (n := n.toNat + 1) (es := es) x (by omega)
    repeat' ((try (conv => whnf)); (first | (refine store_el (by repeat (first | exact Upd.head _ | apply Upd.tail)) soft0 rfl (by rw [hcl]; omega) ?_) | refine Need.mk (by omega) ?_ | refine Need.mk (by decide +kernel) ?_ | refine Need.mk (by rfl) ?_ | refine Need.mk ⟨rfl, Nat.le_of_ble_eq_true rfl⟩ ?_ | (refine Split.mk (fun hsplit => ?_) (fun hsplit => ?_) <;> (try simp only [List.cons.injEq, and_true, true_and, not_true_eq_false, not_false_eq_true] at hsplit) <;> try (exfalso; omega)) | refine Pick.mk _ (fit_i64 (by omega) (by omega)) ?_ | refine Pick.mk _ (fit_u64 (by omega) (by omega)) ?_ | refine Pick.mk _ (fit_u32 (by omega) (by omega)) ?_ | refine Pick.mk _ (fit_u8 (by omega) (by omega)) ?_ | refine Pick.mk _ (quo_i64 (by omega) (by omega) (by omega)) ?_ | refine Pick.mk _ (rem_pos (by omega)) ?_ | refine Pick.mk _ (cellIs_at (by repeat (first | exact List.Mem.head _ | refine List.Mem.tail _ ?_)) rfl) ?_ | refine Pick.mk _ (cellIs_old (by assumption) (by simp)) ?_ | refine Pick.mk _ (pick_whole (by repeat (first | exact List.Mem.head _ | refine List.Mem.tail _ ?_)) (by rfl)) ?_ | refine Pick.mk _ (pick_part (by repeat (first | exact List.Mem.head _ | refine List.Mem.tail _ ?_)) (by rfl)) ?_ | refine store_at (by repeat (first | exact Upd.head _ | apply Upd.tail)) soft0 (by rfl) (by rfl) ?_ | refine Any.mk (fun _ => ?_) | refine Need.mk (List.Sublist.cons _ (List.Sublist.refl _)) ?_ | refine Need.mk (List.Sublist.refl _) ?_ | refine Both.mk ?_ ?_)); all_goals (try (conv => whnf))
    all_goals
      have e4 : (n - (i : Int)).toNat = n.toNat + 1 - 1 - es.length := by omega
      have e5 : (#[Value.int IntKind.i64 (i : Int), x.slc].getD 1 undef) = x.slc := rfl
      have e6 : (x :: es).map KE.l = downK (lastK seed) (i + 1) := by rw [List.map_cons, hes, hxl]; rfl
      rw [e5, e4, hset]
    · obtain rfl : i = n.toNat := by omega
      have e7 : cellsK (n.toNat + 1) (x :: es) = (x :: es).map KE.slc := by
        unfold cellsK
        rw [List.length_cons, he, Nat.sub_self]
        rfl
      rw [e7]
      exact Done.mk fun B hkk => ⟨rfl, x :: es, e6, fun y hy => by
        rcases List.mem_cons.1 hy with rfl | hy
        · exact hxk.kept hkk hlt
        · exact (hks y hy).kept hkk hlt, rfl⟩
    · exact Done.mk fun B hkk => ⟨by omega, x :: es, by rw [List.length_cons, he], e6, fun y hy => by
        rcases List.mem_cons.1 hy with rfl | hy
        · exact hxk.kept hkk hlt
        · exact (hks y hy).kept hkk hlt, rfl⟩
  · rintro D W hs a' ⟨h, _⟩
    omega
  · rintro D c W hs a' ⟨rfl, es, hes, hk, rfl⟩ hst hD hn2 hf'
    refine wpIn_exit ?_
    dsimp only [Exit.inBlock]
    rw [if_pos rfl]
    obtain ⟨L, hL, hLm⟩ := hst.addAll hw0 hlt es hk
    refine behind_vc tab_ok rfl hf' hL hD hn2 ?_
    repeat' ((try (conv => whnf)); (first | refine Pick.mk _ (cellIs_at (List.mem_append_right _ (by repeat (first | exact List.Mem.head _ | refine List.Mem.tail _ ?_))) rfl) ?_ | refine Need.mk (by omega) ?_ | refine Need.mk (by decide +kernel) ?_ | refine Need.mk (by rfl) ?_ | refine Need.mk ⟨rfl, Nat.le_of_ble_eq_true rfl⟩ ?_ | (refine Split.mk (fun hsplit => ?_) (fun hsplit => ?_) <;> (try simp only [List.cons.injEq, and_true, true_and, not_true_eq_false, not_false_eq_true] at hsplit) <;> try (exfalso; omega)) | refine Pick.mk _ (fit_i64 (by omega) (by omega)) ?_ | refine Pick.mk _ (fit_u64 (by omega) (by omega)) ?_ | refine Pick.mk _ (fit_u32 (by omega) (by omega)) ?_ | refine Pick.mk _ (fit_u8 (by omega) (by omega)) ?_ | refine Pick.mk _ (quo_i64 (by omega) (by omega) (by omega)) ?_ | refine Pick.mk _ (rem_pos (by omega)) ?_ | refine Pick.mk _ (cellIs_at (by repeat (first | exact List.Mem.head _ | refine List.Mem.tail _ ?_)) rfl) ?_ | refine Pick.mk _ (cellIs_old (by assumption) (by simp)) ?_ | refine Pick.mk _ (pick_whole (by repeat (first | exact List.Mem.head _ | refine List.Mem.tail _ ?_)) (by rfl)) ?_ | refine Pick.mk _ (pick_part (by repeat (first | exact List.Mem.head _ | refine List.Mem.tail _ ?_)) (by rfl)) ?_ | refine store_at (by repeat (first | exact Upd.head _ | apply Upd.tail)) soft0 (by rfl) (by rfl) ?_ | refine Any.mk (fun _ => ?_) | refine Need.mk (List.Sublist.cons _ (List.Sublist.refl _)) ?_ | refine Need.mk (List.Sublist.refl _) ?_ | refine Both.mk ?_ ?_)); all_goals (try (conv => whnf))
    have hkl2 := downK_len (lastK seed) (n.toNat + 1)
    refine Done.mk ⟨bo, es, by rw [hkl2]; rfl, List.mem_append_right _ (List.Mem.head _), hes, fun x hx => ⟨List.mem_append_left _ (hLm x hx), (hk x hx).soft⟩⟩
theorem all_no (A : Option Addr) (seed : List B8) (ck : Nat) (n : Int) (hno : ¬ (seed.length = 16 ∧ 1 ≤ n ∧ n ≤ 256)) (hck : seed.length ≤ ck) (w : World) (hA : At w A (seed.map b8)) :
    Val Try.prog 14 [.slice A seed.length ck, .int .i64 n] w (.tuple #[.slice none 0 0, .int .i64 1]) := by
  have hlo : lastOf seed n = ([], 1) := by unfold lastOf; rw [if_neg hno]
  have h1 : Ret Try.prog 14 [.slice A seed.length ck, .int .i64 n] w fun u hs => u = .tuple #[.slice none 0 0, .int .i64 1] := by
    refine ret_marks Try.func14 rfl rfl ?_
    intro a hf hw
    refine chain_sound tab_ok 3 _ _ [] _ _ (K := fun _ _ => False) (X := fun _ _ _ => False)
      (R := retK ⟨Try.prog, w, []⟩ tab Try.f14.results.toList fun v hs => Done (v = .tuple #[.slice none 0 0, .int .i64 1])) ?_ (fun _ _ _ _ h => h.elim) (fun _ _ _ _ _ h => h.elim) (fun env hs a w hk hf hw => ahead_ret (K := fun v _ => v = .tuple #[.slice none 0 0, .int .i64 1]) tab_ok hk hf hw) hf hw
    repeat' ((try (conv => whnf)); (first | (refine CallVC.givesX (xs := []) (e := 1) (fun w2 h2 => by have := last_r A seed ck n hck w2 (hA.here h2 (fun _ _ => by simp)); rw [hlo] at this; exact this) (fun A' c' E hl hO => ?_)) | refine Need.mk (by omega) ?_ | refine Need.mk (by decide +kernel) ?_ | refine Need.mk (by rfl) ?_ | refine Need.mk ⟨rfl, Nat.le_of_ble_eq_true rfl⟩ ?_ | (refine Split.mk (fun hsplit => ?_) (fun hsplit => ?_) <;> (try simp only [List.cons.injEq, and_true, true_and, not_true_eq_false, not_false_eq_true] at hsplit) <;> try (exfalso; omega)) | refine Pick.mk _ (fit_i64 (by omega) (by omega)) ?_ | refine Pick.mk _ (fit_u64 (by omega) (by omega)) ?_ | refine Pick.mk _ (fit_u32 (by omega) (by omega)) ?_ | refine Pick.mk _ (fit_u8 (by omega) (by omega)) ?_ | refine Pick.mk _ (quo_i64 (by omega) (by omega) (by omega)) ?_ | refine Pick.mk _ (rem_pos (by omega)) ?_ | refine Pick.mk _ (cellIs_at (by repeat (first | exact List.Mem.head _ | refine List.Mem.tail _ ?_)) rfl) ?_ | refine Pick.mk _ (cellIs_old (by assumption) (by simp)) ?_ | refine Pick.mk _ (pick_whole (by repeat (first | exact List.Mem.head _ | refine List.Mem.tail _ ?_)) (by rfl)) ?_ | refine Pick.mk _ (pick_part (by repeat (first | exact List.Mem.head _ | refine List.Mem.tail _ ?_)) (by rfl)) ?_ | refine store_at (by repeat (first | exact Upd.head _ | apply Upd.tail)) soft0 (by rfl) (by rfl) ?_ | refine Any.mk (fun _ => ?_) | refine Need.mk (List.Sublist.cons _ (List.Sublist.refl _)) ?_ | refine Need.mk (List.Sublist.refl _) ?_ | refine Both.mk ?_ ?_)); all_goals (try (conv => whnf))
    all_goals first | exact Done.mk rfl | exact absurd rfl (by assumption) | skip
    trace_state
  refine ⟨h1.calls.mono ?_⟩
  rintro e w' ⟨v, hs, he, hv, hst⟩
  exact ⟨v, [], he, ⟨hv, rfl⟩, hst.sub (List.nil_sublist _)⟩
theorem rall_r (A : Option Addr) (seed : List B8) (ck : Nat) (n : Int) (hl : seed.length = 16) (hn : 1 ≤ n ∧ n ≤ 256) (hck : seed.length ≤ ck) (w : World) (hA : At w A (seed.map b8)) :
    Ret Try.prog 15 [.slice A seed.length ck, .int .i64 n] w (GivesK (downK (lastK seed) (n.toNat + 1))) := by
  have hkl := lastK_len seed
  have e1 : (n + 1).toNat = n.toNat + 1 := by omega
  refine ret_vc tab_ok Try.func15 rfl rfl ?_
  repeat' ((try (conv => whnf)); (first | (refine CallVC.givesXP (xs := lastK seed) (e := 0) (fun w2 h2 => by have := rkey_r A seed ck sSeed none [] 0 hck (by decide) (by decide) w2 (hA.here h2 (fun _ _ => by simp)) At.nil; rw [lastK_key hl] at this; exact this) hkl (by omega) (fun bk rk frk c hc hfk => ?_)) | refine Need.mk ⟨by omega, by omega, by show (n + 1) * 24 ≤ _; omega, by decide⟩ ?_ | refine Need.mk (by omega) ?_ | refine Need.mk (by decide +kernel) ?_ | refine Need.mk (by rfl) ?_ | refine Need.mk ⟨rfl, Nat.le_of_ble_eq_true rfl⟩ ?_ | (refine Split.mk (fun hsplit => ?_) (fun hsplit => ?_) <;> (try simp only [List.cons.injEq, and_true, true_and, not_true_eq_false, not_false_eq_true] at hsplit) <;> try (exfalso; omega)) | refine Pick.mk _ (fit_i64 (by omega) (by omega)) ?_ | refine Pick.mk _ (fit_u64 (by omega) (by omega)) ?_ | refine Pick.mk _ (fit_u32 (by omega) (by omega)) ?_ | refine Pick.mk _ (fit_u8 (by omega) (by omega)) ?_ | refine Pick.mk _ (quo_i64 (by omega) (by omega) (by omega)) ?_ | refine Pick.mk _ (rem_pos (by omega)) ?_ | refine Pick.mk _ (cellIs_at (by repeat (first | exact List.Mem.head _ | refine List.Mem.tail _ ?_)) rfl) ?_ | refine Pick.mk _ (cellIs_old (by assumption) (by simp)) ?_ | refine Pick.mk _ (pick_whole (by repeat (first | exact List.Mem.head _ | refine List.Mem.tail _ ?_)) (by rfl)) ?_ | refine Pick.mk _ (pick_part (by repeat (first | exact List.Mem.head _ | refine List.Mem.tail _ ?_)) (by rfl)) ?_ | refine store_at (by repeat (first | exact Upd.head _ | apply Upd.tail)) soft0 (by rfl) (by rfl) ?_ | refine Any.mk (fun _ => ?_) | refine Need.mk (List.Sublist.cons _ (List.Sublist.refl _)) ?_ | refine Need.mk (List.Sublist.refl _) ?_ | refine Both.mk ?_ ?_)); all_goals (try (conv => whnf))
  rename_i bo
  rw [e1]
  have e2 : cellsK (n.toNat + 1) [] = zerosL (n.toNat + 1) ty22.zero := by unfold cellsK; rw [List.map_nil, List.append_nil]; rfl
  refine LoopVC.perm (List.Perm.swap _ _ _) ?_
  refine LoopVC.mk (fun m env hs => ∃ (j : Nat) (x : Int) (es : List KE) (E : Hp) (b : Nat) (r : List Value) (fr : Nat × Nat) (c : Nat), x = n - (j : Int) ∧ j + m = n.toNat + 1 ∧ es.length = j ∧ es.map KE.l = downK (lastK seed) j ∧ c = ((stepN (lastK seed) j).map b8 ++ r).length ∧ Soft fr ((stepN (lastK seed) j).map b8 ++ r).length ∧
    (⟨b, (stepN (lastK seed) j).map b8 ++ r, 5, fr⟩ : Ent) ∈ E ∧ (∀ x ∈ es, x.ent ∈ E ∧ Soft x.fr x.ent.cs.length) ∧
    env = [(6, .slice (some ⟨b, 0, none⟩) 16 c), (8, .slice (some ⟨bo, 0, none⟩) (n.toNat + 1) (n.toNat + 1)), (9, .int .i64 x)] ∧ hs = E ++ [⟨bo, cellsK (n.toNat + 1) es, 22, (0, 0)⟩]) (n.toNat + 1)
    (Weak.mk (Sub.cons rfl (Sub.cons rfl (Sub.cons rfl Sub.nil))) (List.Sublist.refl _) ⟨0, n, [], [⟨bk, (lastK seed).map b8 ++ rk, 5, frk⟩], bk, rk, frk, c, by omega, by omega, rfl, rfl, hc, hfk, List.Mem.head _, by simp, rfl, by rw [e2]; rfl⟩) ?_
  rintro m env hs ⟨j, x, es, E, b, r, fr, c, hx, hj, he, hes, hcc, hfr, hmem, hes2, rfl, rfl⟩
  have hl16 := stepN_len hkl j
  have hl17 := stepN_len hkl (j + 1)
  have hnx := stepN_next hkl j
  by_cases hjn : j ≤ n.toNat
  · obtain ⟨y, hy⟩ : ∃ y : KE, y = ⟨b, stepN (lastK seed) j, r, fr⟩ := ⟨_, rfl⟩
    have hys : (Value.slice (some ⟨b, 0, none⟩) 16 c) = y.slc := by subst hy; unfold KE.slc; rw [hl16, hcc]
    have hye : y.ent = ⟨b, (stepN (lastK seed) j).map b8 ++ r, 5, fr⟩ := by subst hy; rfl
    have hyl : y.l = stepN (lastK seed) j := by subst hy; rfl
    have hyf : Soft y.fr y.ent.cs.length := by subst hy; exact hfr
    have hcl := cellsK_len (n := n.toNat + 1) (es := es) (by omega)
    have hset := cellsK_set (n := n.toNat + 1) (es := es) y (by omega)
    repeat' ((try (conv => whnf)); (first | (refine store_el (upd_end (by rfl) _) soft0 rfl (by rw [hcl]; omega) ?_) | (refine CallVC.givesXP (xs := stepN (lastK seed) (j + 1)) (e := 0) (fun w5 h5 => by have := rstep_r (some ⟨b, 0, none⟩) (stepN (lastK seed) j) c (by rw [hcc, List.length_append, List.length_map]; omega) w5 (at_pre (List.mem_append_left _ hmem) h5); rw [hnx, hl16] at this; exact this) hl17 (by omega) (fun b6 r6 fr6 c6 hc6 hf6 => ?_)) | refine Need.mk (by omega) ?_ | refine Need.mk (by decide +kernel) ?_ | refine Need.mk (by rfl) ?_ | refine Need.mk ⟨rfl, Nat.le_of_ble_eq_true rfl⟩ ?_ | (refine Split.mk (fun hsplit => ?_) (fun hsplit => ?_) <;> (try simp only [List.cons.injEq, and_true, true_and, not_true_eq_false, not_false_eq_true] at hsplit) <;> try (exfalso; omega)) | refine Pick.mk _ (fit_i64 (by omega) (by omega)) ?_ | refine Pick.mk _ (fit_u64 (by omega) (by omega)) ?_ | refine Pick.mk _ (fit_u32 (by omega) (by omega)) ?_ | refine Pick.mk _ (fit_u8 (by omega) (by omega)) ?_ | refine Pick.mk _ (quo_i64 (by omega) (by omega) (by omega)) ?_ | refine Pick.mk _ (rem_pos (by omega)) ?_ | refine Pick.mk _ (cellIs_at (by repeat (first | exact List.Mem.head _ | refine List.Mem.tail _ ?_)) rfl) ?_ | refine Pick.mk _ (cellIs_old (by assumption) (by simp)) ?_ | refine Pick.mk _ (pick_whole (by repeat (first | exact List.Mem.head _ | refine List.Mem.tail _ ?_)) (by rfl)) ?_ | refine Pick.mk _ (pick_part (by repeat (first | exact List.Mem.head _ | refine List.Mem.tail _ ?_)) (by rfl)) ?_ | refine store_at (by repeat (first | exact Upd.head _ | apply Upd.tail)) soft0 (by rfl) (by rfl) ?_ | refine Any.mk (fun _ => ?_) | refine Need.mk (List.Sublist.cons _ (List.Sublist.refl _)) ?_ | refine Need.mk (List.Sublist.refl _) ?_ | refine Both.mk ?_ ?_)); all_goals (try (conv => whnf))
    have e4 : x.toNat = n.toNat + 1 - 1 - es.length := by omega
    rw [hys, e4, hset]
    exact again (m - 1) (by omega) (Sub.cons rfl (Sub.cons rfl (Sub.cons rfl Sub.nil))) (List.Sublist.refl _) ⟨j + 1, _, y :: es, ⟨b6, (stepN (lastK seed) (j + 1)).map b8 ++ r6, 5, fr6⟩ :: E, b6, r6, fr6, c6, by omega, by omega, by rw [List.length_cons, he], by rw [List.map_cons, hes, hyl]; rfl, hc6, hf6, List.Mem.head _, fun z hz => by
      rcases List.mem_cons.1 hz with rfl | hz
      · exact ⟨List.Mem.tail _ (hye ▸ hmem), hyf⟩
      · exact ⟨List.Mem.tail _ (hes2 z hz).1, (hes2 z hz).2⟩, rfl, rfl⟩
  · obtain rfl : j = n.toNat + 1 := by omega
    repeat' ((try (conv => whnf)); (first | refine Need.mk (by omega) ?_ | refine Need.mk (by decide +kernel) ?_ | refine Need.mk (by rfl) ?_ | refine Need.mk ⟨rfl, Nat.le_of_ble_eq_true rfl⟩ ?_ | (refine Split.mk (fun hsplit => ?_) (fun hsplit => ?_) <;> (try simp only [List.cons.injEq, and_true, true_and, not_true_eq_false, not_false_eq_true] at hsplit) <;> try (exfalso; omega)) | refine Pick.mk _ (fit_i64 (by omega) (by omega)) ?_ | refine Pick.mk _ (fit_u64 (by omega) (by omega)) ?_ | refine Pick.mk _ (fit_u32 (by omega) (by omega)) ?_ | refine Pick.mk _ (fit_u8 (by omega) (by omega)) ?_ | refine Pick.mk _ (quo_i64 (by omega) (by omega) (by omega)) ?_ | refine Pick.mk _ (rem_pos (by omega)) ?_ | refine Pick.mk _ (cellIs_at (by repeat (first | exact List.Mem.head _ | refine List.Mem.tail _ ?_)) rfl) ?_ | refine Pick.mk _ (cellIs_old (by assumption) (by simp)) ?_ | refine Pick.mk _ (pick_whole (by repeat (first | exact List.Mem.head _ | refine List.Mem.tail _ ?_)) (by rfl)) ?_ | refine Pick.mk _ (pick_part (by repeat (first | exact List.Mem.head _ | refine List.Mem.tail _ ?_)) (by rfl)) ?_ | refine store_at (by repeat (first | exact Upd.head _ | apply Upd.tail)) soft0 (by rfl) (by rfl) ?_ | refine Any.mk (fun _ => ?_) | refine Need.mk (List.Sublist.cons _ (List.Sublist.refl _)) ?_ | refine Need.mk (List.Sublist.refl _) ?_ | refine Both.mk ?_ ?_)); all_goals (try (conv => whnf))
    have hkl2 := downK_len (lastK seed) (n.toNat + 1)
    have e7 : cellsK (n.toNat + 1) es = es.map KE.slc := by
      unfold cellsK
      rw [he, Nat.sub_self]
      rfl
    rw [e7]
    exact Done.mk ⟨bo, es, by rw [hkl2]; rfl, List.mem_append_right _ (List.Mem.head _), hes, fun x hx => ⟨List.mem_append_left _ (hes2 x hx).1, (hes2 x hx).2⟩⟩
theorem rall_no (A : Option Addr) (seed : List B8) (ck : Nat) (n : Int) (hno : ¬ (seed.length = 16 ∧ 1 ≤ n ∧ n ≤ 256)) (w : World) :
    Val Try.prog 15 [.slice A seed.length ck, .int .i64 n] w (.tuple #[.slice none 0 0, .int .i64 1]) := by
  refine val_vc tab_ok Try.func15 rfl rfl ?_
  repeat' ((try (conv => whnf)); (first | refine Need.mk (by omega) ?_ | refine Need.mk (by decide +kernel) ?_ | refine Need.mk (by rfl) ?_ | refine Need.mk ⟨rfl, Nat.le_of_ble_eq_true rfl⟩ ?_ | (refine Split.mk (fun hsplit => ?_) (fun hsplit => ?_) <;> (try simp only [List.cons.injEq, and_true, true_and, not_true_eq_false, not_false_eq_true] at hsplit) <;> try (exfalso; omega)) | refine Pick.mk _ (fit_i64 (by omega) (by omega)) ?_ | refine Pick.mk _ (fit_u64 (by omega) (by omega)) ?_ | refine Pick.mk _ (fit_u32 (by omega) (by omega)) ?_ | refine Pick.mk _ (fit_u8 (by omega) (by omega)) ?_ | refine Pick.mk _ (quo_i64 (by omega) (by omega) (by omega)) ?_ | refine Pick.mk _ (rem_pos (by omega)) ?_ | refine Pick.mk _ (cellIs_at (by repeat (first | exact List.Mem.head _ | refine List.Mem.tail _ ?_)) rfl) ?_ | refine Pick.mk _ (cellIs_old (by assumption) (by simp)) ?_ | refine Pick.mk _ (pick_whole (by repeat (first | exact List.Mem.head _ | refine List.Mem.tail _ ?_)) (by rfl)) ?_ | refine Pick.mk _ (pick_part (by repeat (first | exact List.Mem.head _ | refine List.Mem.tail _ ?_)) (by rfl)) ?_ | refine store_at (by repeat (first | exact Upd.head _ | apply Upd.tail)) soft0 (by rfl) (by rfl) ?_ | refine Any.mk (fun _ => ?_) | refine Need.mk (List.Sublist.cons _ (List.Sublist.refl _)) ?_ | refine Need.mk (List.Sublist.refl _) ?_ | refine Both.mk ?_ ?_)); all_goals (try (conv => whnf))
  all_goals exact Done.mk rfl
end Go.Proofs.Ytamibdabhgnfcaa
