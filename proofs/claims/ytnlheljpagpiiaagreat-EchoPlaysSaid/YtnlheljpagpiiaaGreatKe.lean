/-
  The program's Expand; every input.
-/
import Derived.Test.YtnlheljpagpiiaaGreatKd
set_option linter.unusedVariables false
set_option linter.unusedSimpArgs false
set_option maxRecDepth 100000
set_option maxHeartbeats 8000000
namespace Go.Proofs.YtnlheljpagpiiaaGreat
open Go
attribute [local irreducible] bitsOf shlOf shrOf
theorem tags_step (key info : List B8) (n i : Nat) (h : 32 * i ≤ n) : tagsN key info i ++ (tagN key info (i + 1)).take (n - 32 * i) = (tagsN key info (i + 1)).take n := by
  rw [tagsN, List.take_append, tagsN_len, List.take_of_length_le (l := tagsN key info i) (by rw [tagsN_len]; exact h)]
theorem ids_not {G : Cx} {hs pre rest : Hp} {w : World} (h : St G hs w) (hs2 : (pre ++ rest).Sublist hs) {e : Ent} (he : e ∈ pre) : e.b ∉ ids rest := by
  have := (h.sub hs2).nodup
  rw [List.map_append] at this
  exact fun hm => (List.nodup_append.1 this).2.2 _ (List.mem_map_of_mem he) _ hm rfl
theorem expand_r (A : Option Addr) (key : List B8) (ck : Nat) (B : Option Addr) (info : List B8) (cb : Nat) (n : Int) (hn : 0 ≤ n ∧ n ≤ 8160) (hkb : key.length ≤ 1048576) (hck : key.length ≤ ck) (hb : info.length ≤ 1000) (hcb : info.length ≤ cb) (w : World) (hA : At w A (key.map b8)) (hB : At w B (info.map b8)) :
    Ret Tryz.prog 140 [.slice A key.length ck, .slice B info.length cb, .int .i64 n] w (GivesO (expand key info n.toNat)) := by
  refine ret_marks Tryz.func140 rfl rfl ?_
  intro a hf hw
  refine chain_sound tab_ok 4 _ _ [] _ _ (K := fun env hs => Done (∃ bn bo br, n ≠ 0 ∧ Sub [(0, .slice A key.length ck), (1, .slice B info.length cb), (5, .pointer (some ⟨bn, 0, none⟩)), (8, .pointer (some ⟨bo, 0, none⟩))] env ∧
    List.Sublist [⟨bo, [.slice (some ⟨br, 0, none⟩) 0 n.toNat], 23, (0, 0)⟩, ⟨br, zerosL n.toNat ty5.zero, 5, (0, 0)⟩, ⟨bn, [.int .i64 n], 3, (0, 0)⟩] hs)) (X := fun _ _ _ => False)
    (R := retK ⟨Tryz.prog, w, []⟩ tab Tryz.f140.results.toList fun v hs => Done (GivesO (expand key info n.toNat) v hs)) ?_ ?_ (fun _ _ _ _ _ h => h.elim) (fun env hs a w hk hf hw => ahead_ret tab_ok hk hf hw) hf hw
  · repeat' ((try (conv => whnf)); (first | refine Need.mk ⟨by decide, by omega, by show n * 1 ≤ _; omega, by decide⟩ ?_ | refine Pick.mk pl140_12 (by decide +kernel) ?_ | refine Need.au ?_ | (refine Split.mk (fun hsplit => ?_) (fun hsplit => ?_) <;> (try simp only [List.cons.injEq, and_true, true_and, not_true_eq_false, not_false_eq_true] at hsplit) <;> try (exfalso; omega)) | refine Pick.au ?_ | refine store_au ?_ | refine Any.mk (fun _ => ?_) | refine Both.mk ?_ ?_)); all_goals (try (conv => whnf))
    · rename_i x2 _ _ _ _ x1 x0
      obtain rfl := hsplit
      have e0 : expand key info (0 : Int).toNat = [] := List.eq_nil_of_length_eq_zero (expand_len ..)
      rw [e0]
      exact Done.mk ⟨some ⟨x1, 0, none⟩, 0, _, rfl, Nat.le_refl _, Own.row x1 [] [] (0, 0) soft0, List.Sublist.cons _ (List.Sublist.cons_cons _ (List.nil_sublist _))⟩
    · rename_i x2 _ _ _ _ x1 x0
      exact Done.mk ⟨x2, x0, x1, hsplit, Sub.cons rfl (Sub.cons rfl (Sub.cons rfl (Sub.cons rfl Sub.nil))), List.Sublist.refl _⟩
  clear hf hw
  intro env hs a w1 hk hf hw1
  obtain ⟨bn, bo, br, h0, hsub, hsl⟩ := hk.out
  replace hf := hf.sub hsub
  replace hw1 := (hw1.sub hsl).perm (List.Perm.swap _ _ _)
  clear hk hsub hsl
  refine wpIn_seq ?_
  refine chain_sound tab_ok 1 _ _ _ _ _ (K := fun env hs => Done (∃ b1 b2, Sub [(5, .pointer (some ⟨bn, 0, none⟩)), (8, .pointer (some ⟨bo, 0, none⟩)), (29, .func (.func 172) #[] #[.pointer (some ⟨b1, 0, none⟩), .pointer (some ⟨b2, 0, none⟩)])] env ∧
    List.Sublist ([⟨b2, [.slice B info.length cb], 23, (0, 0)⟩, ⟨b1, [.slice A key.length ck], 23, (0, 0)⟩] ++ [⟨br, zerosL n.toNat ty5.zero, 5, (0, 0)⟩, ⟨bo, [.slice (some ⟨br, 0, none⟩) 0 n.toNat], 23, (0, 0)⟩, ⟨bn, [.int .i64 n], 3, (0, 0)⟩]) hs)) (X := fun _ _ _ => False) (R := fun _ _ => False) ?_ ?_ (fun _ _ _ _ _ h => h.elim) (fun _ _ _ _ h => h.elim) hf hw1
  · repeat' ((try (conv => whnf)); (first | refine CallVC.of (fun w2 h2 => parts_r A key.length ck B info.length cb w2) ?_ | rintro _ _ ⟨b1, b2, rfl, rfl⟩ | refine Pick.mk pl140_12 (by decide +kernel) ?_ | refine Need.au ?_ | (refine Split.mk (fun hsplit => ?_) (fun hsplit => ?_) <;> (try simp only [List.cons.injEq, and_true, true_and, not_true_eq_false, not_false_eq_true] at hsplit) <;> try (exfalso; omega)) | refine Pick.au ?_ | refine store_au ?_ | refine Any.mk (fun _ => ?_) | refine Both.mk ?_ ?_)); all_goals (try (conv => whnf))
    exact Done.mk ⟨b1, b2, Sub.cons rfl (Sub.cons rfl (Sub.cons rfl Sub.nil)), List.Sublist.refl _⟩
  clear hf hw1
  intro env hs a w2 hk hf hw2
  obtain ⟨b1, b2, hsub, hsl⟩ := hk.out
  replace hf := hf.sub hsub
  have hAk : ∀ {C : Option Addr} {xs : List Value}, At w C xs → At w2 C xs := fun {C xs} h => h.kept (Kept.of hw2) (by simp)
  have nofp : ∀ {C : Option Addr} {xs : List Value}, At w C xs → xs ≠ [] → ∀ c, C = some c → c.block ∉ [br, bo, bn] := by
    intro C xs h hx c hc hm
    subst hc
    have hlt := h.lt hx
    have := (hw2.sub hsl).new
    obtain ⟨e, he, hb⟩ : ∃ e ∈ ([⟨br, zerosL n.toNat ty5.zero, 5, (0, 0)⟩, ⟨bo, [.slice (some ⟨br, 0, none⟩) 0 n.toNat], 23, (0, 0)⟩, ⟨bn, [.int .i64 n], 3, (0, 0)⟩] : Hp), e.b = c.block := List.mem_map.1 hm
    have := (this e (List.mem_append_right _ he)).resolve_right (by simp)
    simp only at this
    omega
  have hn1 : b1 ∉ [br, bo, bn] := ids_not hw2 hsl (e := ⟨b1, [.slice A key.length ck], 23, (0, 0)⟩) (List.Mem.tail _ (List.Mem.head _))
  have hn2 : b2 ∉ [br, bo, bn] := ids_not hw2 hsl (e := ⟨b2, [.slice B info.length cb], 23, (0, 0)⟩) (List.Mem.head _)
  have hlt : ∀ b ∈ [br, bo, bn], b < w2.heap.size := by
    intro b hm
    obtain ⟨e, he, rfl⟩ : ∃ e ∈ ([⟨br, zerosL n.toNat ty5.zero, 5, (0, 0)⟩, ⟨bo, [.slice (some ⟨br, 0, none⟩) 0 n.toNat], 23, (0, 0)⟩, ⟨bn, [.int .i64 n], 3, (0, 0)⟩] : Hp), e.b = b := List.mem_map.1 hm
    exact (hw2.sub hsl).lt (List.mem_append_right _ he)
  have hKI : KI [br, bo, bn] b1 b2 A key ck B info cb w2 :=
    ⟨at_ent (List.Mem.tail _ (List.Mem.head _)) (hw2.sub hsl), at_ent (List.Mem.head _) (hw2.sub hsl), hAk hA, hAk hB, hn1, hn2, nofp hA, nofp hB, hlt⟩
  have hw3 := (hw2.sub hsl).sub (List.sublist_append_right _ _)
  clear hk hsub hsl nofp hn1 hn2 hlt hAk hw2
  refine wpIn_block (rangeFunc_vc tab_ok hf hw3 rfl ?_ (fp := [br, bo, bn]) (lim := True) (N := 255) (El := tagEl [br, bo, bn] key info)
    (fun i hs _ => 32 * i < n.toNat ∧ ∃ r, ((tagsN key info i).map b8 ++ r).length = n.toNat ∧ hs = [⟨br, (tagsN key info i).map b8 ++ r, 5, (0, 0)⟩, ⟨bo, [.slice (some ⟨br, 0, none⟩) (32 * i) n.toNat], 23, (0, 0)⟩, ⟨bn, [.int .i64 n], 3, (0, 0)⟩])
    (fun c hs _ => c = .exit 1 ∧ ∃ r, ((expand key info n.toNat).map b8 ++ r).length = n.toNat ∧ hs = [⟨br, (expand key info n.toNat).map b8 ++ r, 5, (0, 0)⟩, ⟨bo, [.slice (some ⟨br, 0, none⟩) n.toNat n.toNat], 23, (0, 0)⟩, ⟨bn, [.int .i64 n], 3, (0, 0)⟩])
    (fun h => absurd trivial h) (fun _ _ _ _ h _ => h) (fun _ _ _ _ h _ => h) ?_ ?_ ?_ ?_ ?_ ?_ (fun vs => [(5, .pointer (some ⟨bn, 0, none⟩)), (8, .pointer (some ⟨bo, 0, none⟩)), (9, vs.getD 0 undef)]) ?_ ?_ ?_ ?_)
  · exact fun args w => callFunc_run (tab_ok.fns _ (by rfl))
  · rintro i hs A ⟨_, r, _, rfl⟩ b hm
    exact hm
  · rintro i A C vs ⟨b, c, rfl, hc, hb, hT⟩ hk
    exact ⟨b, c, rfl, hc, hb, hT.kept hk (by simp)⟩
  · rintro i A vs ⟨b, c, rfl, hc, hb, hT⟩
    rfl
  · intro p hp
    obtain rfl : p = 30 := by simpa using hp
    decide
  · refine ⟨by omega, zerosL n.toNat ty5.zero, by show ([] ++ zerosL n.toNat ty5.zero).length = _; rw [List.nil_append]; exact zerosL_len _, rfl⟩
  · intro W1 hk hst hsz
    exact parts_iter [br, bo, bn] b1 b2 A key ck B info cb hkb hck hb hcb W1 (hKI.kept hk.none)
  · rintro i A vs ⟨b, c, rfl, hc, hb, hT⟩
    repeat' ((try (conv => whnf)); (first | refine Pick.mk pl140_12 (by decide +kernel) ?_ | refine Need.au ?_ | (refine Split.mk (fun hsplit => ?_) (fun hsplit => ?_) <;> (try simp only [List.cons.injEq, and_true, true_and, not_true_eq_false, not_false_eq_true] at hsplit) <;> try (exfalso; omega)) | refine Pick.au ?_ | refine store_au ?_ | refine Any.mk (fun _ => ?_) | refine Both.mk ?_ ?_)); all_goals (try (conv => whnf))
    exact Done.mk (Sub.cons rfl (Sub.cons rfl (Sub.cons rfl Sub.nil)))
  · rintro i A2 vs hs hi ⟨h32, r, hlen, rfl⟩ hst ⟨b, c, rfl, hc, hb, hT⟩
    have hsl := tagsN_len key info i
    have h1l := tagN_len key info i
    obtain ⟨k, hk⟩ : ∃ k, k = min 32 (n.toNat - 32 * i) := ⟨_, rfl⟩
    have hM : (min (((tagN key info (i + 1)).length : Nat) : Int) (n - ((32 * i : Nat) : Int))).toNat = k := by omega
    have hk1 : ((tagN key info (i + 1)).take k).length = k := by rw [List.length_take]; omega
    have ht : tagsN key info i ++ (tagN key info (i + 1)).take k = (tagsN key info (i + 1)).take n.toNat := by
      rw [← tags_step _ _ _ _ (by omega)]
      congr 1
      by_cases h : 32 ≤ n.toNat - 32 * i
      · rw [List.take_of_length_le (by omega), List.take_of_length_le (by omega)]
      · rw [show k = n.toNat - 32 * i by omega]
    have hs1l := tagsN_len key info (i + 1)
    repeat' ((try (conv => whnf)); (first | (rw [slice_cut0, hM]; refine AppendVC.stay (xs := tagsN key info i) (ys := (tagN key info (i + 1)).take k) (m := k) tab_ok apb rfl (by repeat (first | exact Take.head _ | apply Take.tail)) soft0 hlen hsl (Holds.at (by rw [List.length_map]; exact hk1) ((hT.takeB k)) (fun a ha => by cases ha; exact hb)) (by omega) (fun r' hr' => ?_)) | refine Pick.mk pl140_12 (by decide +kernel) ?_ | refine Need.au ?_ | (refine Split.mk (fun hsplit => ?_) (fun hsplit => ?_) <;> (try simp only [List.cons.injEq, and_true, true_and, not_true_eq_false, not_false_eq_true] at hsplit) <;> try (exfalso; omega)) | refine Pick.au ?_ | refine store_au ?_ | refine Any.mk (fun _ => ?_) | refine Both.mk ?_ ?_)); all_goals (try (conv => whnf))
    · have he : tagsN key info i ++ (tagN key info (i + 1)).take k = expand key info n.toNat := by rw [ht]; exact expand_of _ _ _ _ (by omega)
      have e3 : 32 * i + k = n.toNat := by omega
      rw [he] at hr' ⊢
      rw [e3]
      exact Done.mk fun _ _ => ⟨rfl, r', hr', rfl⟩
    · have he : tagsN key info i ++ (tagN key info (i + 1)).take k = tagsN key info (i + 1) := by rw [ht, List.take_of_length_le (by omega)]
      have e3 : 32 * i + k = 32 * (i + 1) := by omega
      rw [he] at hr' ⊢
      rw [e3]
      exact Done.mk fun _ _ => ⟨by omega, r', hr', rfl⟩
  · rintro D W hs a' ⟨h32, _⟩
    omega
  · rintro D c W hs a' ⟨rfl, r, hlen, rfl⟩ hst hD hn2 hf'
    refine wpIn_exit ?_
    dsimp only [Exit.inBlock]
    rw [if_pos rfl]
    refine behind_vc tab_ok rfl hf' hst hD hn2 ?_
    repeat' ((try (conv => whnf)); (first | refine Pick.mk pl140_12 (by decide +kernel) ?_ | refine Need.au ?_ | (refine Split.mk (fun hsplit => ?_) (fun hsplit => ?_) <;> (try simp only [List.cons.injEq, and_true, true_and, not_true_eq_false, not_false_eq_true] at hsplit) <;> try (exfalso; omega)) | refine Pick.au ?_ | refine store_au ?_ | refine Any.mk (fun _ => ?_) | refine Both.mk ?_ ?_)); all_goals (try (conv => whnf))
    have hO := Own.row br (expand key info n.toNat) r (0, 0) soft0
    rw [hlen] at hO
    exact Done.mk ⟨_, _, _, by rw [expand_len]; rfl, by rw [expand_len]; exact Nat.le_refl _, hO, List.Sublist.cons_cons _ (List.nil_sublist _)⟩
end Go.Proofs.YtnlheljpagpiiaaGreat
