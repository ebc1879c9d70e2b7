/-
  The program's tags one behind another, as an iterator goes over them; every input.
-/
import Derived.Test.YtnlheljpagpiiaaGreatMh
import Derived.Test.YtnlheljpagpiiaaGreatMe
set_option linter.unusedVariables false
set_option linter.unusedSimpArgs false
set_option maxRecDepth 100000
set_option maxHeartbeats 8000000
namespace Go.Proofs.YtnlheljpagpiiaaGreat
open Go
attribute [local irreducible] bitsOf shlOf shrOf
theorem parts_r (A : Option Addr) (n ck : Nat) (B : Option Addr) (m cb : Nat) (w : World) :
    Ret Tryz.prog 159 [.slice A n ck, .slice B m cb] w fun v hs => ∃ b1 b2, v = .func (.func 172) #[] #[.pointer (some ⟨b1, 0, none⟩), .pointer (some ⟨b2, 0, none⟩)] ∧
      hs = [⟨b2, [.slice B m cb], 23, (0, 0)⟩, ⟨b1, [.slice A n ck], 23, (0, 0)⟩] := by
  refine ret_vc tab_ok Tryz.func159 rfl rfl ?_
  repeat' ((try (conv => whnf)); (first | refine Need.au ?_ | (refine Split.mk (fun hsplit => ?_) (fun hsplit => ?_) <;> (try simp only [List.cons.injEq, and_true, true_and, not_true_eq_false, not_false_eq_true] at hsplit) <;> try (exfalso; omega)) | refine Pick.au ?_ | refine store_au ?_ | refine Any.mk (fun _ => ?_) | refine Both.mk ?_ ?_)); all_goals (try (conv => whnf))
  exact Done.mk ⟨_, _, rfl, rfl⟩
/-- What the iterator's captured variables hold. -/
structure KI (fp : List Nat) (b1 b2 : Nat) (A : Option Addr) (key : List B8) (ck : Nat) (B : Option Addr) (info : List B8) (cb : Nat) (w : World) : Prop where
  h1 : At w (some ⟨b1, 0, none⟩) [.slice A key.length ck]
  h2 : At w (some ⟨b2, 0, none⟩) [.slice B info.length cb]
  hA : At w A (key.map b8)
  hB : At w B (info.map b8)
  n1 : b1 ∉ fp
  n2 : b2 ∉ fp
  nA : key.map b8 ≠ [] → ∀ a, A = some a → a.block ∉ fp
  nB : info.map b8 ≠ [] → ∀ a, B = some a → a.block ∉ fp
  lt : ∀ b ∈ fp, b < w.heap.size
theorem KI.kept {fp : List Nat} {b1 b2 : Nat} {A : Option Addr} {key : List B8} {ck : Nat} {B : Option Addr} {info : List B8} {cb : Nat} {w w' : World} (h : KI fp b1 b2 A key ck B info cb w) (hk : Kept fp w w') : KI fp b1 b2 A key ck B info cb w' :=
  ⟨h.h1.kept hk (fun a ha => by cases ha; exact h.n1), h.h2.kept hk (fun a ha => by cases ha; exact h.n2), h.hA.keptB hk h.nA, h.hB.keptB hk h.nB, h.n1, h.n2, h.nA, h.nB, fun b hb => Nat.lt_of_lt_of_le (h.lt b hb) hk.size⟩
/-- The elements. -/
def tagEl (fp : List Nat) (key info : List B8) (i : Nat) (w : World) (vs : Array Value) : Prop := ∃ b c, vs = #[.slice (some ⟨b, 0, none⟩) (tagN key info (i + 1)).length c] ∧ (tagN key info (i + 1)).length ≤ c ∧ b ∉ fp ∧ At w (some ⟨b, 0, none⟩) ((tagN key info (i + 1)).map b8)
theorem parts_iter (fp : List Nat) (b1 b2 : Nat) (A : Option Addr) (key : List B8) (ck : Nat) (B : Option Addr) (info : List B8) (cb : Nat) (hkb : key.length ≤ 1048576) (hck : key.length ≤ ck) (hib : info.length ≤ 1000) (hcb : info.length ≤ cb) (W1 : World) (hK : KI fp b1 b2 A key ck B info cb W1) :
    Iter Tryz.prog 172 #[.pointer (some ⟨b1, 0, none⟩), .pointer (some ⟨b2, 0, none⟩)] W1 fp True 255 (tagEl fp key info) := by
  refine iter_vc Tryz.func172 rfl rfl rfl ?_
  intro l J Jx hJ hJx hy _ h0 a hf
  have hst := st_self Tryz.prog W1
  refine chain_sound (G := ⟨Tryz.prog, W1, []⟩) tab_ok 2 _ _ [] _ _ (K := fun env hs => Done (Sub [(0, .func (.yield l) #[] #[]), (1, .pointer (some ⟨b1, 0, none⟩)), (2, .pointer (some ⟨b2, 0, none⟩)), (4, .slice none 0 0), (5, .int .i64 1)] env)) (X := fun _ _ _ => False) (R := fun _ _ => False) ?_ ?_ (fun _ _ _ _ _ h => h.elim) (fun _ _ _ _ h => h.elim) hf hst
  · repeat' ((try (conv => whnf)); (first | refine Need.au ?_ | (refine Split.mk (fun hsplit => ?_) (fun hsplit => ?_) <;> (try simp only [List.cons.injEq, and_true, true_and, not_true_eq_false, not_false_eq_true] at hsplit) <;> try (exfalso; omega)) | refine Pick.au ?_ | refine store_au ?_ | refine Any.mk (fun _ => ?_) | refine Both.mk ?_ ?_)); all_goals (try (conv => whnf))
    exact Done.mk (Sub.cons rfl (Sub.cons rfl (Sub.cons rfl (Sub.cons rfl (Sub.cons rfl Sub.nil)))))
  intro env hs a w hk hf hw
  replace hf := hf.sub hk.out
  have hJ0 := hJ _ _ _ h0 (hw.sub (List.nil_sublist _))
  have hK0 := hK.kept (Kept.of hw).none
  refine wpIn_block (wpIn_loop_ghost' (fun n a w => ∃ (i : Nat) (x : Int) (At_ : Option Addr) (kt ct : Nat), x = ((i + 1 : Nat) : Int) ∧ i + n = 255 ∧ kt = (tagN key info i).length ∧ (tagN key info i).length ≤ ct ∧ J i w ∧ KI fp b1 b2 A key ck B info cb w ∧ At w At_ ((tagN key info i).map b8) ∧
    Fits [] 37 [(0, .func (.yield l) #[] #[]), (1, .pointer (some ⟨b1, 0, none⟩)), (2, .pointer (some ⟨b2, 0, none⟩)), (4, .slice At_ kt ct), (5, .int .i64 x)] a) 255 ⟨0, 1, none, 0, 0, rfl, rfl, rfl, Nat.le_refl _, hJ0, hK0, At.nil, hf⟩ ?_)
  clear hf hw hk hst hK0 hJ0
  rintro n a w ⟨i, _, At_, kt, ct, rfl, hi, hkt, hct, hJi, hKi, hT, hf⟩
  have hkt2 := tagN_le key info i
  have hst := st_self Tryz.prog w
  refine chain_sound (G := ⟨Tryz.prog, w, []⟩) tab_ok 1 _ _ [] _ _ (K := fun env hs => Done (i < 255 ∧ Sub [(0, .func (.yield l) #[] #[]), (1, .pointer (some ⟨b1, 0, none⟩)), (2, .pointer (some ⟨b2, 0, none⟩)), (4, .slice At_ kt ct), (5, .int .i64 ((i + 1 : Nat) : Int))] env)) (X := fun id _ _ => Done (id = 0 ∧ i = 255)) (R := fun _ _ => False) ?_ ?_ ?_ (fun _ _ _ _ h => h.elim) hf hst
  · repeat' ((try (conv => whnf)); (first | refine Need.au ?_ | (refine Split.mk (fun hsplit => ?_) (fun hsplit => ?_) <;> (try simp only [List.cons.injEq, and_true, true_and, not_true_eq_false, not_false_eq_true] at hsplit) <;> try (exfalso; omega)) | refine Pick.au ?_ | refine store_au ?_ | refine Any.mk (fun _ => ?_) | refine Both.mk ?_ ?_)); all_goals (try (conv => whnf))
    · exact Done.mk ⟨by omega, Sub.cons rfl (Sub.cons rfl (Sub.cons rfl (Sub.cons rfl (Sub.cons rfl Sub.nil))))⟩
    · exact Done.mk ⟨rfl, by omega⟩
  rotate_left
  · rintro id env hs a w' ⟨rfl, rfl⟩ hf' hw'
    exact ⟨.inl rfl, hf'.defers, .inl (hJ _ _ _ hJi (hw'.sub (List.nil_sublist _)))⟩
  clear hf hst
  intro env hs a w1 hk hf hw
  obtain ⟨hi2, hsub⟩ := hk.out
  replace hf := hf.sub hsub
  replace hJi := hJ _ _ _ hJi (hw.sub (List.nil_sublist _))
  replace hKi := hKi.kept (Kept.of hw).none
  replace hT := hT.kept (Kept.of hw) (by simp)
  clear hk hsub hw
  subst hkt
  have hpl := padOf_len key 0x36
  have e1 : tagN key info (i + 1) = hmac key (tagN key info i ++ info ++ [BitVec.ofNat 8 (i + 1)]) := rfl
  have h1l := tagN_len key info i
  obtain ⟨hh1, hh2, hA, hB, _, _, _, _, hlt⟩ := id hKi
  have hst := st_self Tryz.prog w1
  refine wpIn_seq (wpIn_block ?_)
  refine chain_sound (G := ⟨Tryz.prog, w1, []⟩) tab_ok 5 _ _ [] _ _ (K := fun env hs => Done (∃ b c r fr, (tagN key info (i + 1)).length ≤ c ∧ Sub [(0, .func (.yield l) #[] #[]), (1, .pointer (some ⟨b1, 0, none⟩)), (2, .pointer (some ⟨b2, 0, none⟩)), (4, .slice (some ⟨b, 0, none⟩) (tagN key info (i + 1)).length c), (5, .int .i64 ((i + 1 : Nat) : Int))] env ∧
    List.Sublist [⟨b, (tagN key info (i + 1)).map b8 ++ r, 5, fr⟩] hs)) (X := fun _ _ _ => False) (R := fun _ _ => False) ?_ ?_ (fun _ _ _ _ _ h => h.elim) (fun _ _ _ _ h => h.elim) hf hst
  · repeat' ((try (conv => whnf)); (first | refine Pick.mk _ (cell_known hh1 (by simp) rfl) ?_ | (refine CallVC.newMac rfl hkb hck (fun w2 h2 => hA.here h2 (fun _ _ => by simp)) (fun mp p b r fr A' c hc => ?_)) | (refine CallVC.wroteF (m := padOf key 0x36) (bs := tagN key info i) _ (List.Perm.refl _) (fun w2 _ => by rw [rest_pad]; exact At.nil) (fun w2 h2 h3 => macwrite_m mp p _ (ne_of_two h2) _ _ _ A' c At_ _ ct (by rw [hpl]; omega) (rest_lt _) hc hct w2 (at_ent (by repeat (first | exact List.Mem.head _ | refine List.Mem.tail _ ?_)) h2) h3 (by rw [rest_pad]; exact At.nil) (hT.here h2 (fun _ _ => by simp))) (fun A2 c2 L hc2 hL => ?_)) | refine Pick.mk _ (cell_known hh2 (by simp) rfl) ?_ | (refine CallVC.wroteF (m := padOf key 0x36 ++ tagN key info i) (bs := info) _ (List.Perm.refl _) hL (fun w2 h2 h3 => macwrite_m mp p _ (ne_of_two h2) _ _ _ A2 c2 B _ cb (by rw [List.length_append, hpl]; omega) (rest_lt _) hc2 hcb w2 (at_ent (by repeat (first | exact List.Mem.head _ | refine List.Mem.tail _ ?_)) h2) h3 (hL w2 (h2.sub (List.sublist_cons_self _ _))) (hB.here h2 (fun _ _ => by simp))) (fun A3 c3 L2 hc3 hL2 => ?_)) | refine Pick.mk _ (conv_i64_8 _) ?_ | (refine CallVC.wroteF (m := padOf key 0x36 ++ tagN key info i ++ info) (bs := [BitVec.ofNat 8 (i + 1)]) _ (List.Perm.swap _ _ _) (fun w2 h2 => hL2 w2 (h2.sub (List.sublist_cons_self _ _))) (fun w2 h2 h3 => macwrite_m mp p _ (ne_of_two (h2.sub (List.sublist_cons_self _ _))) _ _ _ A3 c3 _ [BitVec.ofNat 8 (i + 1)] 1 (by rw [List.length_append, List.length_append, hpl]; show 64 + (tagN key info i).length + info.length + 1 ≤ 1048576; omega) (rest_lt _) hc3 (Nat.le_refl 1) w2 (at_ent (by repeat (first | exact List.Mem.head _ | refine List.Mem.tail _ ?_)) h2) h3 (hL2 w2 ((h2.sub (List.sublist_cons_self _ _)).sub (List.sublist_cons_self _ _))) (at_ent (by repeat (first | exact List.Mem.head _ | refine List.Mem.tail _ ?_)) h2)) (fun A4 c4 L3 hc4 hL3 => ?_)) | (refine CallVC.givesEB (xs := tagN key info (i + 1)) (fun w2 h2 => e1 ▸ macsum_g mp p key (padOf key 0x36 ++ tagN key info i ++ info ++ [BitVec.ofNat 8 (i + 1)]) (tagN key info i ++ info ++ [BitVec.ofNat 8 (i + 1)]) _ _ A4 c4 (by simp) (by rw [List.length_append, List.length_append, List.length_append, hpl]; show 64 + (tagN key info i).length + info.length + 1 ≤ 1048576; omega) w2 (at_ent (by repeat (first | exact List.Mem.head _ | refine List.Mem.tail _ ?_)) h2) (at_ent (by repeat (first | exact List.Mem.head _ | refine List.Mem.tail _ ?_)) h2) (hL3 w2 (h2.sub (List.sublist_cons_self _ _))) (at_pre (by repeat (first | exact List.Mem.head _ | refine List.Mem.tail _ ?_)) h2)) (fun b6 r6 fr6 hf6 => ?_)) | refine Need.au ?_ | (refine Split.mk (fun hsplit => ?_) (fun hsplit => ?_) <;> (try simp only [List.cons.injEq, and_true, true_and, not_true_eq_false, not_false_eq_true] at hsplit) <;> try (exfalso; omega)) | refine Pick.au ?_ | refine store_au ?_ | refine Any.mk (fun _ => ?_) | refine Both.mk ?_ ?_)); all_goals (try (conv => whnf))
    exact Done.mk ⟨b6, _, r6, fr6, by simp, Sub.cons rfl (Sub.cons rfl (Sub.cons rfl (Sub.cons rfl (Sub.cons rfl Sub.nil)))), List.Sublist.cons_cons _ (List.nil_sublist _)⟩
  clear hf hst
  intro env hs a w2 hk hf hw
  obtain ⟨b, c, r, fr, hc, hsub, hsl⟩ := hk.out
  replace hf := hf.sub hsub
  replace hw := hw.sub hsl
  have hKb : ∀ {w3 : World}, St ⟨Tryz.prog, w1, []⟩ [⟨b, (tagN key info (i + 1)).map b8 ++ r, 5, fr⟩] w3 → b ∉ fp := fun {w3} h3 hm => by
    have := hlt b hm
    have := (h3.new _ (List.Mem.head _)).resolve_right (by simp)
    simp only at this
    omega
  refine wpIn_seq (region_yield (G := ⟨Tryz.prog, w1, []⟩) tab_ok [_, _] _ [_] _ (.tmp 33) [(0, .func (.yield l) #[] #[]), (1, .pointer (some ⟨b1, 0, none⟩)), (2, .pointer (some ⟨b2, 0, none⟩)), (4, .slice (some ⟨b, 0, none⟩) (tagN key info (i + 1)).length c), (5, .int .i64 ((i + 1 : Nat) : Int)), (33, .func (.yield l) #[] #[]), (34, .slice (some ⟨b, 0, none⟩) (tagN key info (i + 1)).length c)]
    [⟨b, (tagN key info (i + 1)).map b8 ++ r, 5, fr⟩] l #[.slice (some ⟨b, 0, none⟩) (tagN key info (i + 1)).length c] (fun w1 e B => (e = .returned (.bool true) ∧ J (i + 1) B ∧ Kept fp w1 B) ∨ (e = .returned (.bool false) ∧ Jx (i + 1) B)) rfl rfl rfl rfl ?_ hf hw rfl
    (fun ρ h => by have e := h (.tmp 34) _ rfl; simp [e]) (fun w3 h3 => hy i w3 _ (by omega) (hJ _ _ _ hJi (h3.sub (List.nil_sublist _))) ⟨b, c, rfl, hc, hKb h3, at_pre (List.Mem.head _) h3⟩) ?_)
  · repeat' ((try (conv => whnf)); (first | refine Need.au ?_ | (refine Split.mk (fun hsplit => ?_) (fun hsplit => ?_) <;> (try simp only [List.cons.injEq, and_true, true_and, not_true_eq_false, not_false_eq_true] at hsplit) <;> try (exfalso; omega)) | refine Pick.au ?_ | refine store_au ?_ | refine Any.mk (fun _ => ?_) | refine Both.mk ?_ ?_)); all_goals (try (conv => whnf))
    exact Done.mk ⟨Sub.cons rfl (Sub.cons rfl (Sub.cons rfl (Sub.cons rfl (Sub.cons rfl (Sub.cons rfl (Sub.cons rfl Sub.nil)))))), by repeat (first | exact List.Sublist.refl _ | exact List.nil_sublist _ | refine List.Sublist.cons_cons _ ?_ | refine List.Sublist.cons _ ?_)⟩
  clear hf hw hk
  rintro w3 e B h3 (⟨rfl, hJ1, hk1⟩ | ⟨rfl, hx⟩)
  · refine ⟨_, rfl, fun env' _ => Done (Sub [(0, .func (.yield l) #[] #[]), (1, .pointer (some ⟨b1, 0, none⟩)), (2, .pointer (some ⟨b2, 0, none⟩)), (4, .slice (some ⟨b, 0, none⟩) (tagN key info (i + 1)).length c), (5, .int .i64 ((i + 1 : Nat) : Int)), (36, .bool false)] env'), ?_, ?_⟩
    · repeat' ((try (conv => whnf)); (first | refine Need.au ?_ | (refine Split.mk (fun hsplit => ?_) (fun hsplit => ?_) <;> (try simp only [List.cons.injEq, and_true, true_and, not_true_eq_false, not_false_eq_true] at hsplit) <;> try (exfalso; omega)) | refine Pick.au ?_ | refine store_au ?_ | refine Any.mk (fun _ => ?_) | refine Both.mk ?_ ?_)); all_goals (try (conv => whnf))
      exact Done.mk (Sub.cons rfl (Sub.cons rfl (Sub.cons rfl (Sub.cons rfl (Sub.cons rfl (Sub.cons rfl Sub.nil))))))
    intro env hs a w4 hk hf hw
    replace hf := hf.sub hk.out
    have hkw : Kept [] B w4 := Kept.of hw
    refine wpIn_cond (t := false) (hf.agrees _ _ rfl) (wpIn_skip ?_)
    have hT2 : At w4 (some ⟨b, 0, none⟩) ((tagN key info (i + 1)).map b8) := ((at_pre (List.Mem.head _) h3).kept hk1 (fun a ha => by cases ha; exact hKb h3)).kept hkw (by simp)
    have hK2 := ((hKi.kept (Kept.of h3).none).kept hk1).kept hkw.none
    have hJ2 := hJ _ _ _ hJ1 (hw.sub (List.nil_sublist _))
    have hst := st_self Tryz.prog w4
    refine codeVC_sound (G := ⟨Tryz.prog, w4, []⟩) (ds := []) tab_ok _ _ [] (fun env hs => Done (Sub [(0, .func (.yield l) #[] #[]), (1, .pointer (some ⟨b1, 0, none⟩)), (2, .pointer (some ⟨b2, 0, none⟩)), (4, .slice (some ⟨b, 0, none⟩) (tagN key info (i + 1)).length c), (5, .int .i64 ((i + 1 + 1 : Nat) : Int))] env)) (fun _ _ _ => False) (fun _ _ => False) _ _ _ ?_ ⟨?_, fun _ _ _ _ _ h => h.elim, fun _ _ _ _ h => h.elim⟩ hf hst
    · repeat' ((try (conv => whnf)); (first | refine Need.au ?_ | (refine Split.mk (fun hsplit => ?_) (fun hsplit => ?_) <;> (try simp only [List.cons.injEq, and_true, true_and, not_true_eq_false, not_false_eq_true] at hsplit) <;> try (exfalso; omega)) | refine Pick.au ?_ | refine store_au ?_ | refine Any.mk (fun _ => ?_) | refine Both.mk ?_ ?_)); all_goals (try (conv => whnf))
      exact Done.mk (Sub.cons rfl (Sub.cons rfl (Sub.cons rfl (Sub.cons rfl (Sub.cons rfl Sub.nil)))))
    intro env hs a w5 hk hf hw
    exact ⟨n - 1, by omega, i + 1, _, _, _, _, rfl, by omega, rfl, hc, hJ _ _ _ hJ2 (hw.sub (List.nil_sublist _)), hK2.kept (Kept.of hw).none, hT2.kept (Kept.of hw) (by simp), hf.sub hk.out⟩
  · refine ⟨_, rfl, fun env' _ => Done (Sub [(36, .bool true)] env'), ?_, ?_⟩
    · repeat' ((try (conv => whnf)); (first | refine Need.au ?_ | (refine Split.mk (fun hsplit => ?_) (fun hsplit => ?_) <;> (try simp only [List.cons.injEq, and_true, true_and, not_true_eq_false, not_false_eq_true] at hsplit) <;> try (exfalso; omega)) | refine Pick.au ?_ | refine store_au ?_ | refine Any.mk (fun _ => ?_) | refine Both.mk ?_ ?_)); all_goals (try (conv => whnf))
      exact Done.mk (Sub.cons rfl Sub.nil)
    intro env hs a w4 hk hf hw
    replace hf := hf.sub hk.out
    exact wpIn_cond (t := true) (hf.agrees _ _ rfl) (wpIn_ret ⟨.inr rfl, hf.defers, .inr ⟨_, hJx _ _ _ hx (hw.sub (List.nil_sublist _))⟩⟩)
end Go.Proofs.YtnlheljpagpiiaaGreat
