/-
  The digest of bytes, in the program and in the document; every input. The digest of bytes, in the document; every input.
-/
import Derived.Test.YtnlheljpagpiiaaGreatSh
namespace Go.Proofs.YtnlheljpagpiiaaGreat
section
set_option linter.unusedVariables false
set_option linter.unusedSimpArgs false
set_option maxRecDepth 100000
set_option maxHeartbeats 4000000
open Go
attribute [local irreducible] bitsOf shlOf shrOf

/-- A digest of bytes so far. -/
def digM (p : Nat) (m : List B8) (A : Option Addr) (c : Nat) : Ent := digE p (S8.begin.run m) (.slice A (rest m).length c) m.length
theorem rest_lt (m : List B8) : (rest m).length < 64 := by rw [rest_len]; omega
theorem digM_nil (p : Nat) : digM p [] none 0 = ⟨p, digC S8.begin (.slice none 0 0) 0, 236, (0, 0)⟩ := by
  obtain ⟨h1, h2⟩ := run_short S8.begin [] (by decide)
  unfold digM digE
  rw [h1, h2]
  rfl
theorem sha_finish (m : List B8) : finish (S8.begin.run m) (rest m) m.length = sha m := by rw [sha]
section
variable {G : Cx} {hs : Hp}
theorem CallVC.wrote {K : Value → Hp → Prop} {p : Nat} {m : List B8} {Al A : Option Addr} {cl c : Nat} {bs : List B8} (others : Hp) (hP : G.P = Tryz.prog) (hp : hs.Perm (digM p m Al cl :: others)) (hold : ∀ w, St G others w → At w Al ((rest m).map b8)) (hcl : (rest m).length ≤ cl)
    (hbs : ∀ w, St G hs w → At w A (bs.map b8)) (hc : bs.length ≤ c) (hb : m.length + bs.length ≤ 1048576)
    (hk : ∀ A' c' L, (rest (m ++ bs)).length ≤ c' → (∀ w, St G (others ++ L) w → At w A' ((rest (m ++ bs)).map b8)) → K (.int .i64 0) (digM p (m ++ bs) A' c' :: (others ++ L))) :
    CallVC G hs 143 [.pointer (some ⟨p, 0, none⟩), .slice A bs.length c] K := by
  refine ⟨K, fun w hw => ?_, fun _ _ h => h⟩
  have hw' := hw.perm hp
  have ho : St G others w := hw'.sub (List.sublist_cons_self _ _)
  have h1 := (write_m p (S8.begin.run m) (rest m) m.length Al cl A bs c hb (rest_lt m) hcl hc w (hP ▸ hw.only (pre := [digM p m Al cl]) (rest := others) hp) (hold w ho) (hbs w hw)).calls
  rw [← hP] at h1
  refine h1.mono ?_
  rintro e w' ⟨v, hs2, rfl, ⟨rfl, A', c', L, hsb, hc', hL⟩, hst⟩
  obtain ⟨e1, e2⟩ := run_app S8.begin m bs
  rw [← e1, ← e2, ← List.length_append] at hsb
  rw [← e2] at hc' hL
  refine ⟨_, digM p (m ++ bs) A' c' :: (others ++ L), rfl, hk A' c' L hc' ?_, ?_⟩
  · intro w2 hw2
    cases hL with
    | nil h hA => rw [h]; exact At.nil
    | own b r fr hA => subst hA; exact at_pre (List.mem_append_right _ (List.Mem.head _)) hw2
    | old h hA => rw [h]; exact hA w2 (hold w2 (hw2.sub (List.sublist_append_left _ _)))
  · have h2 := hw.transM (pre := [digM p m Al cl]) (rest := others) hp (hst.sbp hsb)
    exact h2.perm (List.Perm.cons _ List.perm_append_comm)
theorem CallVC.newDig {K : Value → Hp → Prop} (hP : G.P = Tryz.prog) (hk : ∀ p, K (.pointer (some ⟨p, 0, none⟩)) (digM p [] none 0 :: hs)) : CallVC G hs 142 [] K :=
  CallVC.ofW (fun w hw => hP ▸ new_r w) fun v hs2 ⟨p, hv, hm⟩ => ⟨[digM p [] none 0], List.singleton_sublist.2 (by rw [digM_nil]; exact hm), by subst hv; exact hk p⟩
theorem CallVC.sumDig {K : Value → Hp → Prop} {p : Nat} {m : List B8} {A : Option Addr} {c : Nat} (hP : G.P = Tryz.prog) (hm : digM p m A c ∈ hs) (hb : m.length ≤ 2000000) (hl : ∀ w, St G hs w → At w A ((rest m).map b8))
    (hk : ∀ b r fr, Soft fr ((sha m).map b8 ++ r).length → K (.tuple #[.slice (some ⟨b, 0, none⟩) (sha m).length ((sha m).map b8 ++ r).length, .int .i64 0]) (⟨b, (sha m).map b8 ++ r, 5, fr⟩ :: hs)) :
    CallVC G hs 146 [.pointer (some ⟨p, 0, none⟩)] K :=
  CallVC.givesEB (fun w hw => by
    have := sum_r p (S8.begin.run m) A (rest m) c m.length (rest_lt m) hb w (at_own (off := 0) hm hw (fun i v hv => by rw [Nat.zero_add]; exact hv)) (hl w hw)
    rw [sha_finish] at this
    rw [hP]
    exact this) hk
end
theorem of_r (A : Option Addr) (bs : List B8) (c : Nat) (hb : bs.length ≤ 1048576) (hc : bs.length ≤ c) (w : World) (h : At w A (bs.map b8)) :
    Ret Tryz.prog 147 [.slice A bs.length c] w (GivesE 5 ((sha bs).map b8) (.int .i64 0)) := by
  refine ret_vc tab_ok Tryz.func147 rfl rfl ?_
  repeat' ((try (conv => whnf)); (first | refine CallVC.newDig rfl (fun p => ?_) | (refine CallVC.wrote (m := []) [] rfl (List.Perm.refl _) (fun w _ => by rw [(run_short S8.begin [] (by decide)).2]; exact At.nil) (by rw [(run_short S8.begin [] (by decide)).2]; exact Nat.le_refl _) (fun w hw => h.here hw (fun _ _ => by simp)) hc (by simpa using hb) (fun A' c' L hc' hL => ?_)) | (refine CallVC.sumDig rfl (List.Mem.head _) (by simp; omega) (fun w hw => hL w (hw.sub (List.sublist_cons_self _ _))) (fun b r fr hf => ?_)) | refine Need.au ?_ | (refine Split.mk (fun hsplit => ?_) (fun hsplit => ?_) <;> (try simp only [List.cons.injEq, and_true, true_and, not_true_eq_false, not_false_eq_true] at hsplit) <;> try (exfalso; omega)) | refine Pick.au ?_ | refine store_au ?_ | refine Any.mk (fun _ => ?_) | refine Both.mk ?_ ?_)); all_goals (try (conv => whnf))
  exact Done.mk ⟨_, rfl, Gives.mk (by repeat (first | exact List.Mem.head _ | refine List.Mem.tail _ ?_)) (by rw [List.length_map]; rfl) rfl hf⟩
end
section
set_option linter.unusedVariables false
set_option linter.unusedSimpArgs false
set_option maxRecDepth 100000
set_option maxHeartbeats 4000000
open Go
attribute [local irreducible] bitsOf shlOf shrOf

section
variable {G : Cx} {hs : Hp}
theorem CallVC.eqv {f : Nat} {u u' : List Value} {K : Value → Hp → Prop} (h1 : u = u') (h : CallVC G hs f u' K) : CallVC G hs f u K := by subst h1; exact h
theorem slice_cut (a : Addr) (k c d l z : Nat) (h : c ≠ l) : Value.slice (if c = l then some a else Option.map (fun x => x.add (l * z)) (some a)) k d = .slice (some (a.add (l * z))) k d := by rw [if_neg h]; rfl
theorem slice_cutN (a : Addr) (k k' c d l z : Nat) (h : c ≠ l) (hk : k = k') : Value.slice (if c = l then some a else Option.map (fun x => x.add (l * z)) (some a)) k d = .slice (some (a.add (l * z))) k' d := by rw [if_neg h, hk]; rfl
theorem at_off {b l n : Nat} {xs r : List Value} {t : TypeId} {fr : Nat × Nat} {w : World} (hm : (⟨b, xs ++ r, t, fr⟩ : Ent) ∈ hs) (hw : St G hs w) : At w (some (Addr.add ⟨b, 0, none⟩ (l * 1))) ((xs.drop l).take n) := by
  rw [add_plain, Nat.zero_add, Nat.mul_one]
  refine at_own hm hw fun i v hv => ?_
  rw [List.getElem?_take] at hv
  split at hv
  · rw [List.getElem?_drop] at hv
    rw [List.getElem?_append_left (List.getElem?_eq_some_iff.1 hv).1]
    exact hv
  · cases hv
end
theorem rof_r (A : Option Addr) (l : List B8) (c : Nat) (hb : l.length ≤ 1048576) (w : World) (h : At w A (l.map b8)) :
    Ret Tryz.prog 115 [.slice A l.length c] w (GivesE 5 ((sha l).map b8) (.int .i64 0)) := by
  have hsha := sha_fill l
  have hF := fill_len l l.length
  refine ret_vc tab_ok Tryz.func115 rfl rfl ?_
  repeat' ((try (conv => whnf)); (first | (refine AppendVC.bytes (xs := []) (r := []) tab_ok apb rfl (by repeat (first | exact Take.head _ | apply Take.tail)) soft0 rfl rfl (Holds.at (by simp) h (by simp)) (by show (2 * (0 + _) + 192) * 1 ≤ _; omega) (fun b1 r1 fr1 hf1 => ?_)) | (refine AppendVC.bytes (xs := [] ++ l) (ys := [0x80]) tab_ok apb rfl (by repeat (first | exact Take.head _ | apply Take.tail)) ‹_› rfl (by simp) (Holds.own (by repeat (first | exact List.Mem.head _ | refine List.Mem.tail _ ?_)) 0 rfl rfl) (by show (2 * (_ + 1) + 192) * 1 ≤ _; omega) (fun b2 r2 fr2 hf2 => ?_)) | refine Need.au ?_ | (refine Split.mk (fun hsplit => ?_) (fun hsplit => ?_) <;> (try simp only [List.cons.injEq, and_true, true_and, not_true_eq_false, not_false_eq_true] at hsplit) <;> try (exfalso; omega)) | refine Pick.au ?_ | refine store_au ?_ | refine Any.mk (fun _ => ?_) | refine Both.mk ?_ ?_)); all_goals (try (conv => whnf))
  refine LoopVC.mk (fun m env hs => ∃ (j b k cap : Nat) (r : List Value) (fr : Nat × Nat) (xs : List B8), j + m = (119 - l.length % 64) % 64 ∧ xs = l ++ [0x80] ++ List.replicate j 0 ∧ k = xs.length ∧ cap = (xs.map b8 ++ r).length ∧ Soft fr (xs.map b8 ++ r).length ∧
    env = [(0, .slice A l.length c), (4, .slice (some ⟨b, 0, none⟩) k cap)] ∧ hs = [⟨b, xs.map b8 ++ r, 5, fr⟩]) ((119 - l.length % 64) % 64)
    (Weak.mk (Sub.cons rfl (Sub.cons rfl Sub.nil)) (by repeat (first | exact List.Sublist.refl _ | exact List.nil_sublist _ | refine List.Sublist.cons_cons _ ?_ | refine List.Sublist.cons _ ?_)) ⟨0, _, _, _, _, _, [] ++ l ++ [0x80], by omega, by simp, by simp, rfl, ‹_›, rfl, rfl⟩) ?_
  rintro m env hs ⟨j, b, _, _, r, fr, xs, hj, hx, rfl, rfl, hf, rfl, rfl⟩
  have hxl : xs.length = l.length + 1 + j := by rw [hx]; simp; omega
  obtain ⟨n, hn⟩ : ∃ n, n = l.length := ⟨_, rfl⟩
  have h8 : ((8 * BitVec.ofNat 64 l.length).toNat : Int) = 8 * l.length := by rw [BitVec.toNat_mul, BitVec.toNat_ofNat]; show (((8 * (l.length % 2 ^ 64)) % 2 ^ 64 : Nat) : Int) = _; omega
  repeat' ((try (conv => whnf)); (first | (refine AppendVC.bytes (ys := [0]) tab_ok apb rfl (by repeat (first | exact Take.head _ | apply Take.tail)) hf rfl rfl (Holds.own (by repeat (first | exact List.Mem.head _ | refine List.Mem.tail _ ?_)) 0 rfl rfl) (by show (2 * (_ + 1) + 192) * 1 ≤ _; omega) (fun b5 r5 fr5 hf5 => ?_)) | refine Pick.mk ((8 * BitVec.ofNat 64 l.length).toNat : Int) (h8.trans (fit_u64 (by omega) (by omega))) ?_ | refine CallVC.givesB (fun w hw => rputlong_r _ xs _ (8 * BitVec.ofNat 64 l.length) (by omega) w (at_pre (by repeat (first | exact List.Mem.head _ | refine List.Mem.tail _ ?_)) hw)) (fun bF rF frF hfF => ?_) | refine CallVC.gives (fun w hw => rbegin_r w) (fun bS rS frS hfS => ?_) | refine Need.au ?_ | (refine Split.mk (fun hsplit => ?_) (fun hsplit => ?_) <;> (try simp only [List.cons.injEq, and_true, true_and, not_true_eq_false, not_false_eq_true] at hsplit) <;> try (exfalso; omega)) | refine Pick.au ?_ | refine store_au ?_ | refine Any.mk (fun _ => ?_) | refine Both.mk ?_ ?_)); all_goals (try (conv => whnf))
  · obtain rfl : j = (119 - l.length % 64) % 64 := by omega
    have e : xs ++ put64 (8 * BitVec.ofNat 64 l.length) = fill l l.length := by
      rw [fill, hx, show BitVec.ofNat 64 (8 * l.length) = 8 * BitVec.ofNat 64 l.length by apply BitVec.eq_of_toNat_eq; rw [BitVec.toNat_mul]; simp]
    rw [e] at hfF ⊢
    rw [hsha]
    obtain ⟨F, hFe⟩ : ∃ F, F = fill l l.length := ⟨_, rfl⟩
    rw [← hFe] at hfF hF hsha ⊢
    clear e h8
    refine LoopVC.mk (fun m env hs => ∃ (i : Nat) (x : Int) (s : S8) (b k cap : Nat) (r : List Value) (fr : Nat × Nat), x = 64 * i ∧ i + m = F.length / 64 ∧ S8.comp m s (F.drop (64 * i)) = S8.comp (F.length / 64) S8.begin F ∧ k = 8 ∧ cap = (s.list.map w32 ++ r).length ∧ Soft fr (s.list.map w32 ++ r).length ∧
      env = [(4, .slice (some ⟨bF, 0, none⟩) F.length (F.map b8 ++ rF).length), (5, .slice (some ⟨b, 0, none⟩) k cap), (6, .int .i64 x)] ∧ hs = [⟨b, s.list.map w32 ++ r, 151, fr⟩, ⟨bF, F.map b8 ++ rF, 5, frF⟩]) (F.length / 64)
      (Weak.mk (Sub.cons rfl (Sub.cons rfl (Sub.cons rfl Sub.nil))) (by repeat (first | exact List.Sublist.refl _ | exact List.nil_sublist _ | refine List.Sublist.cons_cons _ ?_ | refine List.Sublist.cons _ ?_)) ⟨0, 0, S8.begin, _, _, _, _, _, rfl, by omega, by simp, rfl, rfl, ‹_›, rfl, rfl⟩) ?_
    clear hj hx hxl hf
    rintro m env hs ⟨i, _, s, b, _, _, r, fr, rfl, hi, hc, rfl, rfl, hf, rfl, rfl⟩
    have hcap : F.length ≤ (F.map b8 ++ rF).length := by simp
    repeat' ((try (conv => whnf)); (first | (refine CallVC.eqv (congrArg (fun z => [_, z]) (slice_cutN _ _ 64 _ _ _ _ (by omega) (by omega))) ?_) | (refine CallVC.givesE (fun w hw => block_r s _ _ ((F.drop (64 * i)).take 64) _ _ (by rw [List.length_take, List.length_drop]; omega) w (at_pre (by repeat (first | exact List.Mem.head _ | refine List.Mem.tail _ ?_)) hw) (by rw [List.map_take, List.map_drop, ← show (64 * (i : Int)).toNat = 64 * i by omega]; exact at_off (by repeat (first | exact List.Mem.head _ | refine List.Mem.tail _ ?_)) hw)) (fun b5 r5 fr5 hf5 => ?_)) | refine CallVC.givesB (fun w hw => rput_r none [] 0 ⟨b, 0, none⟩ s.list _ (by show 0 + 4 * 8 ≤ _; omega) w At.nil (at_pre (by repeat (first | exact List.Mem.head _ | refine List.Mem.tail _ ?_)) hw)) (fun b5 r5 fr5 hf5 => ?_) | refine Need.au ?_ | (refine Split.mk (fun hsplit => ?_) (fun hsplit => ?_) <;> (try simp only [List.cons.injEq, and_true, true_and, not_true_eq_false, not_false_eq_true] at hsplit) <;> try (exfalso; omega)) | refine Pick.au ?_ | refine store_au ?_ | refine Any.mk (fun _ => ?_) | refine Both.mk ?_ ?_)); all_goals (try (conv => whnf))
    · obtain ⟨m', rfl⟩ : ∃ m', m = m' + 1 := ⟨m - 1, by omega⟩
      refine again m' (by omega) (Sub.cons rfl (Sub.cons rfl (Sub.cons rfl Sub.nil))) (by repeat (first | exact List.Sublist.refl _ | exact List.nil_sublist _ | refine List.Sublist.cons_cons _ ?_ | refine List.Sublist.cons _ ?_)) ⟨i + 1, _, _, _, _, _, _, _, by omega, by omega, ?_, rfl, rfl, ‹_›, rfl, rfl⟩
      rw [← hc, comp_step, List.drop_drop, show 64 * (i + 1) = 64 * i + 64 by omega]
    · obtain rfl : m = 0 := by omega
      rw [← hc, comp_zero]
      exact Done.mk ⟨_, rfl, Gives.mk (by repeat (first | exact List.Mem.head _ | refine List.Mem.tail _ ?_)) (by rw [List.length_map]; rfl) rfl ‹_›⟩
  · refine again (m - 1) (by omega) (Sub.cons rfl (Sub.cons rfl Sub.nil)) (by repeat (first | exact List.Sublist.refl _ | exact List.nil_sublist _ | refine List.Sublist.cons_cons _ ?_ | refine List.Sublist.cons _ ?_)) ⟨j + 1, _, _, _, _, _, _, by omega, ?_, ?_, rfl, ‹_›, rfl, rfl⟩
    · rw [hx, List.replicate_succ', List.append_assoc]
    · rw [List.length_append]; rfl
end
end Go.Proofs.YtnlheljpagpiiaaGreat
