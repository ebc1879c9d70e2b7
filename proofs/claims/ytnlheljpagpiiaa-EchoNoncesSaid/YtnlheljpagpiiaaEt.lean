/-
  The law EchoNonces returns true; every input.
-/
import Derived.Test.YtnlheljpagpiiaaMt
import Derived.Test.YtnlheljpagpiiaaKp
import Derived.Test.YtnlheljpagpiiaaKq
set_option linter.unusedVariables false
set_option linter.unusedSimpArgs false
set_option maxRecDepth 100000
set_option maxHeartbeats 8000000
namespace Go.Proofs.Ytnlheljpagpiiaa
open Go
theorem nonce_nat {inc : Int} {count : BitVec 64} (hi : 0 ≤ inc ∧ inc ≤ 65535) (hc : (count.toNat : Int) < 4294967295) : (firstOf inc + (count + 1#64)).toNat = inc.toNat * 4294967296 + (count.toNat + 1) := by
  have e : (BitVec.ofInt 64 inc).toNat = inc.toNat := by
    have := ofInt_nat hi.1 (show inc < 18446744073709551616 by omega)
    omega
  have e2 : (1#64).toNat = 1 := rfl
  simp only [firstOf, BitVec.toNat_add, BitVec.toNat_shiftLeft, e, Nat.shiftLeft_eq, e2]
  omega
theorem apq : ApT tab 23 23 34 ty34 := ⟨⟨_, rfl, rfl⟩, rfl, ⟨_, rfl, .inr ⟨_, rfl⟩⟩, by decide⟩
/-- A row of words of the call's own, or none. -/
inductive OwnQ : Option Addr → List (BitVec 64) → Nat → Hp → Prop
  | none : OwnQ none [] 0 []
  | row (b : Nat) (l : List (BitVec 64)) (r : List Value) (fr : Nat × Nat) (c : Nat) (hc : (l.map w64 ++ r).length = c) (hf : Soft fr (l.map w64 ++ r).length) : OwnQ (some ⟨b, 0, Option.none⟩) l c [⟨b, l.map w64 ++ r, 34, fr⟩]
theorem cell_q {G : Cx} {hs : Hp} {b k : Nat} {l : List (BitVec 64)} {r : List Value} {t : TypeId} {fr : Nat × Nat} (hm : (⟨b, l.map w64 ++ r, t, fr⟩ : Ent) ∈ hs) (hk : k < l.length) : G.cellIs hs (Addr.add ⟨b, 0, none⟩ (k * 1)) (w64 (l.getD k 0)) := by
  rw [add_plain, Nat.mul_one, Nat.zero_add]
  refine cellIs_at hm ?_
  rw [List.getElem?_append_left (by rw [List.length_map]; exact hk), List.getElem?_map, List.getElem?_eq_getElem hk, List.getD_eq_getElem?_getD, List.getElem?_eq_getElem hk]
  rfl
attribute [local irreducible] bitsOf shlOf shrOf pack numBits bytesBits coreBits crcSum tagOf macKey FrS.ok frameBytes sealX getX holdsX firstOf
theorem nonces_law (A : Option Addr) (m : List B8) (ck : Nat) (B : Option Addr) (incs : List B8) (cb : Nat) (C : Option Addr) (to : List B8) (cc : Nat) (w : World) (hck : m.length ≤ ck) (hA : At w A (m.map b8)) (hB : At w B (incs.map b8)) (hC : At w C (to.map b8)) :
    Val Try.prog 3 [.slice A m.length ck, .slice B incs.length cb, .slice C to.length cc] w (.bool true) := by
  refine val_vc tab_ok Try.func3 rfl rfl ?_
  repeat' ((try (conv => whnf)); (first | (refine Pick.kp ?_; first | refine Pick.mk pm3_10 (by decide +kernel) ?_ | refine Pick.mk pl3_8 (by decide +kernel) ?_ | refine Pick.mk pl3_10 (by decide +kernel) ?_ | refine Pick.mk pl3_23 (by decide +kernel) ?_) | refine Need.au ?_ | (refine Split.mk (fun hsplit => ?_) (fun hsplit => ?_) <;> (try simp only [List.cons.injEq, and_true, true_and, not_true_eq_false, not_false_eq_true] at hsplit) <;> try (exfalso; omega)) | refine Pick.au ?_ | refine store_au ?_ | refine Any.mk (fun _ => ?_) | refine Both.mk ?_ ?_)); all_goals (try (conv => whnf))
  refine LoopVC.mk (fun mm env hs => ∃ (i : Nat) (l : List (BitVec 64)) (Aq : Option Addr) (cq : Nat), i + mm = 4 ∧ i ≤ incs.length ∧ OwnQ Aq l cq hs ∧ l.length ≤ 12 * i ∧ (∀ x ∈ l, ∃ j, j < i ∧ x.toNat / 4294967296 = (incs.getD j 0).toNat) ∧
    env = [(0, .slice A m.length ck), (1, .slice B incs.length cb), (2, .slice C to.length cc), (7, .slice Aq l.length cq), (8, .int .i64 (i : Int))]) 4
    (Weak.mk (Sub.cons rfl (Sub.cons rfl (Sub.cons rfl (Sub.cons rfl (Sub.cons rfl Sub.nil))))) (List.Sublist.refl _) ⟨0, [], none, 0, rfl, Nat.zero_le _, OwnQ.none, Nat.le_refl _, fun x hx => (by cases hx), rfl⟩) ?_
  rintro mm env Es ⟨i, l, Aq, cq, him, hil, hO, hll, hlx, rfl⟩
  by_cases hi : i < incs.length ∧ i < 4
  · obtain ⟨hi1, hi2⟩ := hi
    obtain ⟨ab, rfl⟩ := hB.is (by rw [List.length_map]; omega)
    repeat' ((try (conv => whnf)); (first | (refine Pick.kp ?_; first | refine Pick.mk pm3_10 (by decide +kernel) ?_ | refine Pick.mk pl3_8 (by decide +kernel) ?_ | refine Pick.mk pl3_10 (by decide +kernel) ?_ | refine Pick.mk pl3_23 (by decide +kernel) ?_) | refine Need.au ?_ | (refine Split.mk (fun hsplit => ?_) (fun hsplit => ?_) <;> (try simp only [List.cons.injEq, and_true, true_and, not_true_eq_false, not_false_eq_true] at hsplit) <;> try (exfalso; omega)) | refine Pick.au ?_ | refine store_au ?_ | refine Any.mk (fun _ => ?_) | refine Both.mk ?_ ?_)); all_goals (try (conv => whnf))
    refine LoopVC.mk (fun mm2 env hs => ∃ (k : Nat), k + mm2 = i ∧ (∀ j, j < k → ¬ ((incs.getD j 0).toNat : Int) = ((incs.getD i 0).toNat : Int)) ∧
      env = [(0, .slice A m.length ck), (1, .slice (some ab) incs.length cb), (2, .slice C to.length cc), (7, .slice Aq l.length cq), (8, .int .i64 (i : Int)), (9, .int .i64 (k : Int))] ∧ Es = hs) i
      (Weak.mk (Sub.cons rfl (Sub.cons rfl (Sub.cons rfl (Sub.cons rfl (Sub.cons rfl (Sub.cons rfl Sub.nil)))))) (List.Sublist.refl _) ⟨0, by omega, fun j hj => absurd hj (Nat.not_lt_zero j), rfl, rfl⟩) ?_
    rintro mm2 env hs ⟨k, hkm, hkd, rfl, rfl⟩
    by_cases hki : k < i
    · repeat' ((try (conv => whnf)); (first | (refine Pick.kp ?_; first | refine Pick.mk pm3_10 (by decide +kernel) ?_ | refine Pick.mk _ (cell_arg (k := k) hB (by simp) (by omega)) ?_ | refine Pick.mk _ (cell_arg (k := i) hB (by simp) (by omega)) ?_ | refine Pick.mk pl3_8 (by decide +kernel) ?_ | refine Pick.mk pl3_10 (by decide +kernel) ?_ | refine Pick.mk pl3_23 (by decide +kernel) ?_) | (refine QuietVC.kp ?_; first | (refine QuietVC.val (fun w2 h2 => awake23_v w2) ?_)) | (refine CallVC.kp ?_; first | (refine CallVC.val (fun w2 h2 => awake23_v w2) ?_)) | refine Need.au ?_ | (refine Split.mk (fun hsplit => ?_) (fun hsplit => ?_) <;> (try simp only [List.cons.injEq, and_true, true_and, not_true_eq_false, not_false_eq_true] at hsplit) <;> try (exfalso; omega)) | refine Pick.au ?_ | refine store_au ?_ | refine Any.mk (fun _ => ?_) | refine Both.mk ?_ ?_)); all_goals (try (conv => whnf))
      · exact Done.mk rfl
      · exact again (mm2 - 1) (by omega) (Sub.cons rfl (Sub.cons rfl (Sub.cons rfl (Sub.cons rfl (Sub.cons rfl (Sub.cons rfl Sub.nil)))))) (List.Sublist.refl _) ⟨k + 1, by omega, fun j hj => (Nat.lt_or_eq_of_le (Nat.le_of_lt_succ hj)).elim (fun h => hkd j h) (fun h => by subst h; assumption), rfl, rfl⟩
    · obtain rfl : k = i := by omega
      obtain ⟨xi, hxi⟩ : ∃ x, incs.getD k 0 = x := ⟨_, rfl⟩
      by_cases h16 : m.length = 16
      · repeat' ((try (conv => whnf)); (first | (refine Pick.kp ?_; first | refine Pick.mk pm3_10 (by decide +kernel) ?_ | refine Pick.mk _ (cell_arg (k := k) hB (by simp) (by omega)) ?_ | refine Pick.mk pl3_8 (by decide +kernel) ?_ | refine Pick.mk pl3_10 (by decide +kernel) ?_ | refine Pick.mk pl3_23 (by decide +kernel) ?_) | (refine CallVC.kp ?_; first | (refine CallVC.val (fun w2 h2 => usual_v w2) ?_)) | (refine QuietVC.kp ?_; first | (refine QuietVC.val (fun w2 h2 => usual_v w2) ?_)) | (rw [hxi]; refine CallVC.newE (fun w2 h2 => enew_yes usualC usual_in A m ck 0 (xi.toNat : Int) ⟨usual_ok, by decide, by omega, h16⟩ w2 (hA.here h2 (fun _ _ => by simp))) (fun ep mb r fr cm hcm => ?_)) | refine Need.au ?_ | (refine Split.mk (fun hsplit => ?_) (fun hsplit => ?_) <;> (try simp only [List.cons.injEq, and_true, true_and, not_true_eq_false, not_false_eq_true] at hsplit) <;> try (exfalso; omega)) | refine Pick.au ?_ | refine store_au ?_ | refine Any.mk (fun _ => ?_) | refine Both.mk ?_ ?_)); all_goals (try (conv => whnf))
        refine LoopVC.mk (fun mm3 env hs => ∃ (q : Nat) (count : BitVec 64) (wait : List (BitVec 64 × Int)) (l2 : List (BitVec 64)) (A2 : Option Addr) (c2 : Nat) (E2 : Hp), q + mm3 = 12 ∧ q ≤ to.length ∧ count.toNat = q ∧ wait.length = 8 ∧ OwnQ A2 l2 c2 E2 ∧ l2.length ≤ 12 * k + q ∧
          (∀ x ∈ l2, (∃ j, j < k ∧ x.toNat / 4294967296 = (incs.getD j 0).toNat) ∨ (x.toNat / 4294967296 = xi.toNat ∧ x.toNat % 4294967296 ≤ q)) ∧
          env = [(0, .slice A m.length ck), (1, .slice (some ab) incs.length cb), (2, .slice C to.length cc), (7, .slice A2 l2.length c2), (8, .int .i64 (k : Int)), (10, .pointer (some ⟨ep, 0, none⟩)), (12, .int .i64 (q : Int))] ∧
          hs = eE ep usualC ⟨some ⟨mb, 0, none⟩, m, cm⟩ 0 (firstOf (xi.toNat : Int)) count wait :: ⟨mb, m.map b8 ++ r, 5, fr⟩ :: E2) 12
          (Weak.mk (Sub.cons rfl (Sub.cons rfl (Sub.cons rfl (Sub.cons rfl (Sub.cons rfl (Sub.cons rfl (Sub.cons rfl Sub.nil))))))) (List.Sublist.refl _) ⟨0, 0#64, wait0, l, Aq, cq, Es, rfl, Nat.zero_le _, rfl, rfl, hO, hll, fun x hx => .inl (hlx x hx), rfl, rfl⟩) ?_
        rintro mm3 env hs ⟨q, count, wait, l2, A2, c2, E2, hqm, hqt, hcq, hw8, hO2, hl2, hx2, rfl, rfl⟩
        by_cases hq : q < to.length ∧ q < 12
        · obtain ⟨hq1, hq2⟩ := hq
          obtain ⟨ac, rfl⟩ := hC.is (by rw [List.length_map]; omega)
          obtain ⟨y, hy⟩ : ∃ y, to.getD q 0 = y := ⟨_, rfl⟩
          obtain ⟨z, hz⟩ : ∃ z : Int, z = 1 + (y.toNat : Int) % 2 := ⟨_, rfl⟩
          have hz12 : 1 ≤ z ∧ z ≤ 2 := by omega
          have hpk := pair16 (m := m) (i := 0) (j := z) h16 (by decide) (by omega) (by omega)
          have hpo := ping_ok (i := 0) (to := z) (n := firstOf (xi.toNat : Int) + (count + 1#64)) (by decide) (by omega) (by omega)
          have hps := seal_own hpk hpo
          have hok := withTag_ok hpo (tagOf_len (pingS 0 z (firstOf (xi.toNat : Int) + (count + 1#64))) (pairOf m 0 z).1)
          have hgt := get_frame hok
          have hfl := frameBytes_le2 hok
          have hN := nonce_nat (inc := (xi.toNat : Int)) (count := count) ⟨by omega, by omega⟩ (by omega)
          obtain ⟨P, hP⟩ : ∃ P, P = (pingS 0 z (firstOf (xi.toNat : Int) + (count + 1#64))).withTag (tagOf (pingS 0 z (firstOf (xi.toNat : Int) + (count + 1#64))) (pairOf m 0 z).1) := ⟨_, rfl⟩
          have hPk : P.kind = 2 := by rw [hP]; rfl
          have hPn : P.nonce = firstOf (xi.toNat : Int) + (count + 1#64) := by rw [hP]; rfl
          rw [← hP] at hps hok hgt hfl
          clear hP hpo hpk
          have hmay : mayAsk usualC 0 z 100 count := ⟨⟨⟨⟨by omega, (show z < 3 by omega)⟩, by omega⟩, by decide, by decide⟩, by omega⟩
          repeat' ((try (conv => whnf)); (first | (refine Pick.kp ?_; first | refine Pick.mk pm3_10 (by decide +kernel) ?_ | (refine Pick.mk _ (cell_arg (k := q) hC (by simp) (by omega)) ?_; rw [hy]) | refine Pick.mk pl3_8 (by decide +kernel) ?_ | refine Pick.mk pl3_10 (by decide +kernel) ?_ | refine Pick.mk pl3_23 (by decide +kernel) ?_) | (refine CallVC.kp ?_; first | (refine CallVC.givesF (s := P) (e := 0) (fun w2 h2 => hgt ▸ fget_r A3 (frameBytes P) c3 (by omega) hl3 w2 (ownK_at (own_k hO3) (by repeat (first | exact List.Sublist.refl _ | exact List.nil_sublist _ | exact List.sublist_append_right _ _ | refine List.Sublist.trans ?_ (List.sublist_append_left _ _) | refine List.Sublist.cons _ ?_)) h2)) (fun p Ep hpp hOp => have hpk : p.kind = 2 := (congrArg FrS.kind hpp).trans hPk; have hpn : p.nonce = firstOf (xi.toNat : Int) + (count + 1#64) := (congrArg FrS.nonce hpp).trans hPn; ?_))) | (refine StoreVC.kp ?_; first | (refine store_frame p (by repeat (first | exact Upd.head _ | apply Upd.tail)) rfl ?_)) | (rw [← hz]; refine CallVC.askW rfl (by repeat (first | exact Take.head _ | apply Take.tail)) (by repeat (first | exact List.Mem.head _ | refine List.Mem.tail _ ?_)) hcm (by decide) hw8 hmay hps (fun A3 c3 E3 hO3 => ?_); have hl3 := own_cap hO3; dsimp only at hl3 hO3 ⊢) | refine Need.au ?_ | (refine Split.mk (fun hsplit => ?_) (fun hsplit => ?_) <;> (try simp only [List.cons.injEq, and_true, true_and, not_true_eq_false, not_false_eq_true] at hsplit) <;> try (exfalso; omega)) | refine Pick.au ?_ | refine store_au ?_ | refine Any.mk (fun _ => ?_) | refine Both.mk ?_ ?_)); all_goals (try (conv => whnf))
          have hne : ∀ x ∈ l2, ¬ ((x.toNat : Int) = (p.nonce.toNat : Int)) := by
            intro x hx he
            rw [hpn] at he
            rcases hx2 x hx with ⟨j, hj, hxj⟩ | ⟨h1, h2⟩
            · have := hkd j hj
              rw [hxi] at this
              omega
            · omega
          refine LoopVC.mk (fun mm4 env hs => ∃ (u fx : Nat), u + mm4 = l2.length ∧
            env = [(0, .slice A m.length ck), (1, .slice (some ab) incs.length cb), (2, .slice (some ac) to.length cc), (7, .slice A2 l2.length c2), (8, .int .i64 (k : Int)), (10, .pointer (some ⟨ep, 0, none⟩)), (12, .int .i64 (q : Int)), (15, .pointer (some ⟨fx, 0, none⟩)), (17, .int .i64 (u : Int))] ∧
            hs = eF fx p :: eE ep usualC ⟨some ⟨mb, 0, none⟩, m, cm⟩ 0 (firstOf (xi.toNat : Int)) (count + 1#64) (wait.set z.toNat (firstOf (xi.toNat : Int) + (count + 1#64), 100)) :: ⟨mb, m.map b8 ++ r, 5, fr⟩ :: E2) l2.length
            (Weak.mk (Sub.cons rfl (Sub.cons rfl (Sub.cons rfl (Sub.cons rfl (Sub.cons rfl (Sub.cons rfl (Sub.cons rfl (Sub.cons rfl (Sub.cons rfl Sub.nil))))))))) (by simp only [List.append_eq, List.cons_append, List.append_assoc, List.nil_append]; repeat (first | exact List.Sublist.refl _ | exact List.nil_sublist _ | refine List.Sublist.cons_cons _ ?_ | exact List.sublist_append_left _ _ | exact List.sublist_append_right _ _ | refine List.Sublist.trans ?_ (List.sublist_append_right _ _) | refine List.Sublist.cons _ ?_)) ⟨0, _, by omega, rfl, rfl⟩) ?_
          rintro mm4 env hs ⟨u, fx, hum, rfl, rfl⟩
          by_cases hu : u < l2.length
          · have hnu : ¬ (((l2.getD u 0).toNat : Int) = (p.nonce.toNat : Int)) := hne _ (by rw [List.getD_eq_getElem?_getD, List.getElem?_eq_getElem hu]; exact List.getElem_mem hu)
            rcases hO2 with _ | ⟨b, _, r2, fr2, _, hc2, hf2⟩
            · exact absurd hu (Nat.not_lt_zero u)
            · repeat' ((try (conv => whnf)); (first | (refine Pick.kp ?_; first | refine Pick.mk pm3_10 (by decide +kernel) ?_ | refine Pick.mk _ (cell_q (k := u) (by repeat (first | exact List.Mem.head _ | refine List.Mem.tail _ ?_)) hu) ?_ | refine Pick.mk pl3_8 (by decide +kernel) ?_ | refine Pick.mk pl3_10 (by decide +kernel) ?_ | refine Pick.mk pl3_23 (by decide +kernel) ?_) | refine Need.au ?_ | (refine Split.mk (fun hsplit => ?_) (fun hsplit => ?_) <;> (try simp only [List.cons.injEq, and_true, true_and, not_true_eq_false, not_false_eq_true] at hsplit) <;> try (exfalso; omega)) | refine Pick.au ?_ | refine store_au ?_ | refine Any.mk (fun _ => ?_) | refine Both.mk ?_ ?_)); all_goals (try (conv => whnf))
              all_goals first | exact absurd (by assumption) hnu | exact again (mm4 - 1) (by omega) (Sub.cons rfl (Sub.cons rfl (Sub.cons rfl (Sub.cons rfl (Sub.cons rfl (Sub.cons rfl (Sub.cons rfl (Sub.cons rfl (Sub.cons rfl Sub.nil))))))))) (List.Sublist.refl _) ⟨u + 1, fx, by omega, rfl, rfl⟩
          · have hx3 : ∀ x ∈ l2 ++ [p.nonce], (∃ j, j < k ∧ x.toNat / 4294967296 = (incs.getD j 0).toNat) ∨ (x.toNat / 4294967296 = xi.toNat ∧ x.toNat % 4294967296 ≤ q + 1) := by
              intro x hx
              rcases List.mem_append.1 hx with h | h
              · exact (hx2 x h).imp id (fun h => ⟨h.1, by omega⟩)
              · obtain rfl : x = p.nonce := by simpa using h
                rw [hpn]
                exact .inr ⟨by omega, by omega⟩
            have hcq1 : (count + 1#64).toNat = q + 1 := by
              rw [BitVec.toNat_add, hcq]
              show (q + 1) % 18446744073709551616 = q + 1
              omega
            have hw8' : (wait.set z.toNat (firstOf (xi.toNat : Int) + (count + 1#64), 100)).length = 8 := by rw [List.length_set, hw8]
            rcases hO2 with _ | ⟨b, _, r2, fr2, _, hc2, hf2⟩
            · repeat' ((try (conv => whnf)); (first | (refine Pick.kp ?_; first | refine Pick.mk pm3_10 (by decide +kernel) ?_ | refine Pick.mk pl3_8 (by decide +kernel) ?_ | refine Pick.mk pl3_10 (by decide +kernel) ?_ | refine Pick.mk pl3_23 (by decide +kernel) ?_) | (refine AppendVC.kp ?_; first | (refine AppendVC.nil (xs := [w64 p.nonce]) tab_ok apq (Holds.row rfl (cellsAre_whole (by repeat (first | exact List.Mem.head _ | refine List.Mem.tail _ ?_)))) (by decide) (fun h0 => by omega) (fun _ b4 c4 hc4 => ?_))) | refine Need.au ?_ | (refine Split.mk (fun hsplit => ?_) (fun hsplit => ?_) <;> (try simp only [List.cons.injEq, and_true, true_and, not_true_eq_false, not_false_eq_true] at hsplit) <;> try (exfalso; omega)) | refine Pick.au ?_ | refine store_au ?_ | refine Any.mk (fun _ => ?_) | refine Both.mk ?_ ?_)); all_goals (try (conv => whnf))
              have hz4 : ([p.nonce].map w64 ++ zerosL (c4 - 1) ty34.zero).length = c4 := by
                rw [List.length_append, zeros_len]
                show 1 + (c4 - 1) * 1 = c4
                omega
              exact ⟨mm3 - 1, by omega, _, _, Sub.cons rfl (Sub.cons rfl (Sub.cons rfl (Sub.cons rfl (Sub.cons rfl (Sub.cons rfl (Sub.cons rfl Sub.nil)))))), fun w hw => Sel.st (Sel.cons (by repeat (first | exact Take.head _ | apply Take.tail)) (Sel.cons (by repeat (first | exact Take.head _ | apply Take.tail)) (Sel.cons (by repeat (first | exact Take.head _ | apply Take.tail)) (Sel.sub (List.nil_sublist _))))) hw, ⟨q + 1, count + 1#64, _, [p.nonce], some ⟨b4, 0, none⟩, c4, _, by omega, by omega, hcq1, hw8', OwnQ.row b4 [p.nonce] (zerosL (c4 - 1) ty34.zero) (0, 0) c4 hz4 soft0, (by show 1 ≤ _; omega), hx3, rfl, rfl⟩⟩
            · repeat' ((try (conv => whnf)); (first | (refine Pick.kp ?_; first | refine Pick.mk pm3_10 (by decide +kernel) ?_ | refine Pick.mk pl3_8 (by decide +kernel) ?_ | refine Pick.mk pl3_10 (by decide +kernel) ?_ | refine Pick.mk pl3_23 (by decide +kernel) ?_) | (refine AppendVC.kp ?_; first | (refine AppendVC.on (xs := l2.map w64) (r := r2) (ys := [w64 p.nonce]) tab_ok apq rfl (by repeat (first | exact Take.head _ | apply Take.tail)) hf2 hc2 (by rw [List.length_map]) (Holds.row rfl (cellsAre_whole (by repeat (first | exact List.Mem.head _ | refine List.Mem.tail _ ?_)))) rfl (by show (2 * (_ + _) + 192) * 8 ≤ _; omega) (fun b4 r4 fr4 hf4 => ?_))) | refine Need.au ?_ | (refine Split.mk (fun hsplit => ?_) (fun hsplit => ?_) <;> (try simp only [List.cons.injEq, and_true, true_and, not_true_eq_false, not_false_eq_true] at hsplit) <;> try (exfalso; omega)) | refine Pick.au ?_ | refine store_au ?_ | refine Any.mk (fun _ => ?_) | refine Both.mk ?_ ?_)); all_goals (try (conv => whnf))
              have e4 : l2.map w64 ++ [w64 p.nonce] = (l2 ++ [p.nonce]).map w64 := by rw [List.map_append]; rfl
              have hl4 : (l2 ++ [p.nonce]).length = l2.length + 1 := by rw [List.length_append]; rfl
              rw [e4] at hf4 ⊢
              exact ⟨mm3 - 1, by omega, _, _, Sub.cons rfl (Sub.cons rfl (Sub.cons rfl (Sub.cons rfl (Sub.cons rfl (Sub.cons rfl (Sub.cons rfl Sub.nil)))))), fun w hw => Sel.st (Sel.cons (by repeat (first | exact Take.head _ | apply Take.tail)) (Sel.cons (by repeat (first | exact Take.head _ | apply Take.tail)) (Sel.cons (by repeat (first | exact Take.head _ | apply Take.tail)) (Sel.sub (List.nil_sublist _))))) hw, ⟨q + 1, count + 1#64, _, l2 ++ [p.nonce], some ⟨b4, 0, none⟩, _, _, by omega, by omega, hcq1, hw8', OwnQ.row b4 (l2 ++ [p.nonce]) r4 fr4 _ rfl hf4, by omega, hx3, by rw [hl4], rfl⟩⟩
        · repeat' ((try (conv => whnf)); (first | (refine Pick.kp ?_; first | refine Pick.mk pm3_10 (by decide +kernel) ?_ | refine Pick.mk pl3_8 (by decide +kernel) ?_ | refine Pick.mk pl3_10 (by decide +kernel) ?_ | refine Pick.mk pl3_23 (by decide +kernel) ?_) | refine Need.au ?_ | (refine Split.mk (fun hsplit => ?_) (fun hsplit => ?_) <;> (try simp only [List.cons.injEq, and_true, true_and, not_true_eq_false, not_false_eq_true] at hsplit) <;> try (exfalso; omega)) | refine Pick.au ?_ | refine store_au ?_ | refine Any.mk (fun _ => ?_) | refine Both.mk ?_ ?_)); all_goals (try (conv => whnf))
          all_goals exact again (mm - 1) (by omega) (Sub.cons rfl (Sub.cons rfl (Sub.cons rfl (Sub.cons rfl (Sub.cons rfl Sub.nil))))) (List.Sublist.cons _ (List.Sublist.cons _ (List.Sublist.refl _))) ⟨k + 1, l2, A2, c2, by omega, by omega, hO2, by omega, fun x hx => (hx2 x hx).elim (fun ⟨j, h1, h2⟩ => ⟨j, by omega, h2⟩) (fun h => ⟨k, by omega, by rw [hxi]; exact h.1⟩), rfl⟩
      · repeat' ((try (conv => whnf)); (first | (refine Pick.kp ?_; first | refine Pick.mk pm3_10 (by decide +kernel) ?_ | refine Pick.mk _ (cell_arg (k := k) hB (by simp) (by omega)) ?_ | refine Pick.mk pl3_8 (by decide +kernel) ?_ | refine Pick.mk pl3_10 (by decide +kernel) ?_ | refine Pick.mk pl3_23 (by decide +kernel) ?_) | (refine CallVC.kp ?_; first | (refine CallVC.val (fun w2 h2 => usual_v w2) ?_) | refine CallVC.val (fun w2 h2 => enew_no usualC usual_in A m ck 0 _ (fun hx => h16 hx.2.2.2) w2 (hA.here h2 (fun _ _ => by simp))) ?_ | (refine CallVC.val (fun w2 h2 => awake23_v w2) ?_)) | (refine QuietVC.kp ?_; first | (refine QuietVC.val (fun w2 h2 => usual_v w2) ?_) | (refine QuietVC.val (fun w2 h2 => awake23_v w2) ?_)) | refine Need.au ?_ | (refine Split.mk (fun hsplit => ?_) (fun hsplit => ?_) <;> (try simp only [List.cons.injEq, and_true, true_and, not_true_eq_false, not_false_eq_true] at hsplit) <;> try (exfalso; omega)) | refine Pick.au ?_ | refine store_au ?_ | refine Any.mk (fun _ => ?_) | refine Both.mk ?_ ?_)); all_goals (try (conv => whnf))
        all_goals exact Done.mk rfl
  · repeat' ((try (conv => whnf)); (first | (refine Pick.kp ?_; first | refine Pick.mk pm3_10 (by decide +kernel) ?_ | refine Pick.mk pl3_8 (by decide +kernel) ?_ | refine Pick.mk pl3_10 (by decide +kernel) ?_ | refine Pick.mk pl3_23 (by decide +kernel) ?_) | (refine QuietVC.kp ?_; first | (refine QuietVC.val (fun w2 h2 => awake23_v w2) ?_)) | (refine CallVC.kp ?_; first | (refine CallVC.val (fun w2 h2 => awake23_v w2) ?_)) | refine Need.au ?_ | (refine Split.mk (fun hsplit => ?_) (fun hsplit => ?_) <;> (try simp only [List.cons.injEq, and_true, true_and, not_true_eq_false, not_false_eq_true] at hsplit) <;> try (exfalso; omega)) | refine Pick.au ?_ | refine store_au ?_ | refine Any.mk (fun _ => ?_) | refine Both.mk ?_ ?_)); all_goals (try (conv => whnf))
    all_goals exact Done.mk rfl
end Go.Proofs.Ytnlheljpagpiiaa
