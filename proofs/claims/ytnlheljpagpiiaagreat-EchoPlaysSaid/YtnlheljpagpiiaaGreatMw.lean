/-
  A node that asks, in the document: what it is; made new; forgets; asks; every input. A node that opens, and one that answers, in the document; every input. A node that hears, in the document; every input. Blocks picked out of what is known, in another order. Acts of two nodes, in program and document alike; every input.
-/
import Derived.Test.YtnlheljpagpiiaaGreatMt
import Derived.Test.YtnlheljpagpiiaaGreatMv
import Derived.Test.YtnlheljpagpiiaaGreatMd
namespace Go.Proofs.YtnlheljpagpiiaaGreat
section
set_option linter.unusedVariables false
set_option linter.unusedSimpArgs false
set_option maxRecDepth 100000
set_option maxHeartbeats 8000000
open Go
attribute [local irreducible] bitsOf shlOf shrOf pack numBits bytesBits coreBits crcSum tagOf macKey FrS.ok frameBytes sealX getX holdsX mostX
/-- Pings that wait, as the document has them. -/
def flatW : List (BitVec 64 × Int) → List Value
  | [] => []
  | p :: r => .bool (decide (p ≠ (0, 0))) :: w64 p.1 :: .int .i64 p.2 :: flatW r
abbrev wCs (p : BitVec 64 × Int) : List Value := [.bool (decide (p ≠ (0, 0))), w64 p.1, .int .i64 p.2]
theorem flatW_at : ∀ (ps : List (BitVec 64 × Int)) (i : Nat), i < ps.length → (flatW ps)[3 * i]? = some (.bool (decide (ps.getD i (0, 0) ≠ (0, 0)))) ∧ (flatW ps)[3 * i + 1]? = some (w64 (ps.getD i (0, 0)).1) ∧ (flatW ps)[3 * i + 2]? = some (.int .i64 (ps.getD i (0, 0)).2)
  | [], i, h => absurd h (Nat.not_lt_zero i)
  | p :: r, 0, _ => ⟨rfl, rfl, rfl⟩
  | p :: r, i + 1, h => by
    have := flatW_at r i (by simpa using h)
    exact this
theorem flatW_len : ∀ ps : List (BitVec 64 × Int), (flatW ps).length = 3 * ps.length
  | [] => rfl
  | p :: r => by simp only [flatW, List.length_cons, flatW_len r]; omega
theorem flatW_app : ∀ ps qs : List (BitVec 64 × Int), flatW (ps ++ qs) = flatW ps ++ flatW qs
  | [], qs => rfl
  | p :: r, qs => by simp only [List.cons_append, flatW, flatW_app r qs]
theorem flatW_set {ps : List (BitVec 64 × Int)} {j : Nat} (hj : j < ps.length) (x : BitVec 64 × Int) : flatW (ps.set j x) = (flatW ps).take (3 * j) ++ wCs x ++ (flatW ps).drop (3 * j + 3) := by
  have e : ps = ps.take j ++ ps.getD j (0, 0) :: ps.drop (j + 1) := by
    rw [List.getD_eq_getElem?_getD, List.getElem?_eq_getElem hj]
    exact (List.take_append_drop j ps).symm.trans (by rw [List.drop_eq_getElem_cons hj]; rfl)
  have hl : (ps.take j).length = j := by rw [List.length_take]; omega
  have h1 : flatW ps = flatW (ps.take j) ++ (wCs (ps.getD j (0, 0)) ++ flatW (ps.drop (j + 1))) := by
    conv => lhs; rw [e]
    rw [flatW_app]; rfl
  have hf : (flatW (ps.take j)).length = 3 * j := by rw [flatW_len, hl]
  have h2 : ps.set j x = ps.take j ++ x :: ps.drop (j + 1) := by rw [List.set_eq_take_append_cons_drop, if_pos hj]
  rw [h2, flatW_app, h1, take_len hf, drop_len2 3 hf, List.append_assoc]
  rfl
/-- The node's blocks. -/
abbrev uCs (c : Cfg) (M : Sl) (i inc : Int) (count : BitVec 64) (wb : Nat) : List Value := c.cs ++ [M.v, .int .i64 i, .int .i64 inc, w64 count, .slice (some ⟨wb, 0, none⟩) c.n.toNat c.n.toNat]
abbrev uE (up : Nat) (c : Cfg) (M : Sl) (i inc : Int) (count : BitVec 64) (wb : Nat) : Ent := ⟨up, uCs c M i inc count wb, 85, (0, 0)⟩
abbrev uW (wb : Nat) (ws : List (BitVec 64 × Int)) : Ent := ⟨wb, flatW ws, 87, (0, 0)⟩
theorem store_W {G : Cx} {hs hs' : Hp} {K : Hp → Prop} {wb : Nat} {ws : List (BitVec 64 × Int)} {j : Nat} {x : BitVec 64 × Int} (hj : j < ws.length) (hu : Upd (uW wb ws) (uW wb (ws.set j x)) hs hs') (h : K hs') : StoreVC G hs (Addr.add ⟨wb, 0, none⟩ (j * 3)) (wCs x) K := by
  have hw := flatW_len ws
  rw [add_plain]
  refine StoreVC.at_ (t := 87) (fr := (0, 0)) (cs := flatW ws) ?_ soft0 rfl (by show 0 + j * 3 + 3 ≤ _; omega) h
  rw [layL_eq _ _ _ (by show 0 + j * 3 + 3 ≤ _; omega)]
  have e : flatW (ws.set j x) = (flatW ws).take (0 + j * 3) ++ wCs x ++ (flatW ws).drop (0 + j * 3 + 3) := by
    rw [flatW_set hj, Nat.zero_add, Nat.mul_comm j 3]
  show Upd _ ⟨wb, (flatW ws).take (0 + j * 3) ++ wCs x ++ (flatW ws).drop (0 + j * 3 + 3), _, _⟩ hs hs'
  rw [← e]
  exact hu
theorem store_Wb {G : Cx} {hs hs' : Hp} {K : Hp → Prop} {wb : Nat} {ws : List (BitVec 64 × Int)} {j : Nat} {b : Bool} {n : BitVec 64} {t : Int} (hb : decide ((n, t) ≠ ((0, 0) : BitVec 64 × Int)) = b) (hj : j < ws.length) (hu : Upd (uW wb ws) (uW wb (ws.set j (n, t))) hs hs') (h : K hs') : StoreVC G hs (Addr.add ⟨wb, 0, none⟩ (j * 3)) [.bool b, w64 n, .int .i64 t] K := by
  subst hb
  exact store_W hj hu h
theorem W_own {G : Cx} {hs : Hp} {wb : Nat} {ws : List (BitVec 64 × Int)} {j : Nat} (hm : uW wb ws ∈ hs) (hj : j < ws.length) : (wCs (ws.getD j (0, 0))).length = 3 ∧ G.cellsAre hs (Addr.add ⟨wb, 0, none⟩ (j * 3)) (wCs (ws.getD j (0, 0))) := by
  obtain ⟨h1, h2, h3⟩ := flatW_at ws j hj
  refine ⟨rfl, fun k v hv => ?_⟩
  rw [add_plain, add_plain]
  match k, hv with
  | 0, hv => cases hv; rw [show 0 + j * 3 + 0 = 3 * j by omega]; exact cellIs_at hm h1
  | 1, hv => cases hv; rw [show 0 + j * 3 + 1 = 3 * j + 1 by omega]; exact cellIs_at hm h2
  | 2, hv => cases hv; rw [show 0 + j * 3 + 2 = 3 * j + 2 by omega]; exact cellIs_at hm h3
theorem zeroW (n : Nat) (h : n ≤ 8) : zerosL n ty87.zero = flatW (wait0.take n) := by
  rcases (by omega : n = 0 ∨ n = 1 ∨ n = 2 ∨ n = 3 ∨ n = 4 ∨ n = 5 ∨ n = 6 ∨ n = 7 ∨ n = 8) with rfl | rfl | rfl | rfl | rfl | rfl | rfl | rfl | rfl <;> rfl
theorem nonce_ne {inc : Int} {count : BitVec 64} (hi : 0 ≤ inc ∧ inc ≤ 65535) (hc : (count.toNat : Int) < 4294967295) (t : Int) : (firstOf inc + (count + 1#64), t) ≠ ((0, 0) : BitVec 64 × Int) := by
  intro h
  have h1 := congrArg (fun p : BitVec 64 × Int => p.1.toNat) h
  have e : (BitVec.ofInt 64 inc).toNat = inc.toNat := by
    have := ofInt_nat hi.1 (show inc < 18446744073709551616 by omega)
    omega
  simp only [firstOf, BitVec.toNat_add, BitVec.toNat_shiftLeft, e, Nat.shiftLeft_eq] at h1
  have e2 : (1#64).toNat = 1 := rfl
  have e3 : (0 : BitVec 64).toNat = 0 := rfl
  rw [e2, e3] at h1
  omega
def NewU (c : Cfg) (M : Sl) (i inc : Int) (v : Value) (hs : Hp) : Prop := ∃ up wb, v = .tuple #[.pointer (some ⟨up, 0, none⟩), .int .i64 0] ∧ List.Sublist [uE up c M i inc 0#64 wb, uW wb (wait0.take c.n.toNat)] hs
theorem unew_yes (c : Cfg) (hc : c.In) (A : Option Addr) (m : List B8) (ck : Nat) (i inc : Int) (h : newP c m i inc) (w : World) : Ret Tryz.prog 34 [c.v, .slice A m.length ck, .int .i64 i, .int .i64 inc] w (NewU c ⟨A, m, ck⟩ i inc) := by
  obtain ⟨h1, h2', h3, h4⟩ := h
  have hck : ∀ w, Val Tryz.prog 69 [c.v] w (.int .i64 0) := fun w => by have := rccheck_v c hc w; rwa [if_pos h1] at this
  have hn : 1 ≤ c.n ∧ c.n ≤ 8 := by unfold Cfg.ok at h1; exact ⟨h1.1, h1.2.1⟩
  have hz := zeroW c.n.toNat (by omega)
  clear h1
  refine ret_vc tab_ok Tryz.func34 rfl rfl ?_
  repeat' ((try (conv => whnf)); (first | (refine CallVC.kp ?_; first | refine CallVC.val (fun w2 h2 => hck w2) ?_) | (refine QuietVC.kp ?_; first | refine QuietVC.val (fun w2 h2 => hck w2) ?_) | (refine Pick.kp ?_; first | refine Pick.mk pl34_3 (by decide +kernel) ?_) | refine Need.mk ⟨by omega, by omega, by show c.n * 24 ≤ _; omega, by decide⟩ ?_ | refine Need.au ?_ | (refine Split.mk (fun hsplit => ?_) (fun hsplit => ?_) <;> (try simp only [List.cons.injEq, and_true, true_and, not_true_eq_false, not_false_eq_true] at hsplit) <;> try (exfalso; omega)) | refine Pick.au ?_ | refine store_au ?_ | refine Any.mk (fun _ => ?_) | refine Both.mk ?_ ?_)); all_goals (try (conv => whnf))
  rw [hz]
  exact Done.mk ⟨_, _, rfl, List.Sublist.cons_cons _ (List.Sublist.cons_cons _ (List.nil_sublist _))⟩
theorem unew_no (c : Cfg) (hc : c.In) (A : Option Addr) (m : List B8) (ck : Nat) (i inc : Int) (h : ¬ newP c m i inc) (w : World) : Val Tryz.prog 34 [c.v, .slice A m.length ck, .int .i64 i, .int .i64 inc] w (.tuple #[.pointer none, .int .i64 1]) := by
  refine val_vc tab_ok Tryz.func34 rfl rfl ?_
  repeat' ((try (conv => whnf)); (first | (refine CallVC.kp ?_; first | refine CallVC.ite (fun w2 h2 => rccheck_v c hc w2) (fun h1 => ?_) (fun h1 => ?_)) | (refine Pick.kp ?_; first | refine Pick.mk pl34_3 (by decide +kernel) ?_) | refine Need.au ?_ | (refine Split.mk (fun hsplit => ?_) (fun hsplit => ?_) <;> (try simp only [List.cons.injEq, and_true, true_and, not_true_eq_false, not_false_eq_true] at hsplit) <;> try (exfalso; omega)) | refine Pick.au ?_ | refine store_au ?_ | refine Any.mk (fun _ => ?_) | refine Both.mk ?_ ?_)); all_goals (try (conv => whnf))
  all_goals first | exact Done.mk rfl | (exfalso; exact h ⟨h1, by omega, by omega, by omega⟩)
theorem uforget_m (up wb : Nat) (c : Cfg) (M : Sl) (i inc : Int) (count : BitVec 64) (ws : List (BitVec 64 × Int)) (hn : 1 ≤ c.n ∧ c.n ≤ 8) (w : World) (hw : St ⟨Tryz.prog, w, [up, wb]⟩ [uE up c M i inc count wb, uW wb ws] w) :
    Mut Tryz.prog 40 [.pointer (some ⟨up, 0, none⟩)] w [uE up c M i inc count wb, uW wb ws] fun v hs2 => ∃ H, List.Sublist H hs2 ∧ ∃ wb', H.Perm [uE up c M i inc count wb', uW wb' (wait0.take c.n.toNat)] := by
  have hz := zeroW c.n.toNat (by omega)
  refine mut_vc tab_ok Tryz.func40 rfl rfl hw ?_
  repeat' ((try (conv => whnf)); (first | refine Need.mk ⟨by omega, by omega, by show c.n * 24 ≤ _; omega, by decide⟩ ?_ | refine Need.au ?_ | (refine Split.mk (fun hsplit => ?_) (fun hsplit => ?_) <;> (try simp only [List.cons.injEq, and_true, true_and, not_true_eq_false, not_false_eq_true] at hsplit) <;> try (exfalso; omega)) | refine Pick.au ?_ | refine store_au ?_ | refine Any.mk (fun _ => ?_) | refine Both.mk ?_ ?_)); all_goals (try (conv => whnf))
  rw [hz]
  exact Done.mk ⟨[_, _], List.Sublist.cons_cons _ (List.Sublist.cons_cons _ (List.nil_sublist _)), _, List.Perm.swap _ _ []⟩
theorem shl_first (inc : Int) : ((firstOf inc).toNat : Int) = shlOf .u64 ((BitVec.ofInt 64 inc).toNat : Int) 32 := shl_u64 (BitVec.ofInt 64 inc) 32 (by omega) (by omega)
attribute [local irreducible] firstOf
section
variable (up wb : Nat) (c : Cfg) (A : Option Addr) (m : List B8) (ck : Nat) (i inc : Int) (count : BitVec 64) (ws : List (BitVec 64 × Int)) (w : World)
theorem uask_m (to now : Int) (hck : m.length ≤ ck) (hcn : c.n ≤ 8) (hin : 0 ≤ inc ∧ inc ≤ 65535) (hwl : ws.length = c.n.toNat) (hm : mayAsk c i to now count) (hM : At w A (m.map b8)) (hd : ∀ a, A = some a → a.block ∉ [up, wb]) (hw : St ⟨Tryz.prog, w, [up, wb]⟩ [uE up c ⟨A, m, ck⟩ i inc count wb, uW wb ws] w) :
    Mut Tryz.prog 35 [.pointer (some ⟨up, 0, none⟩), .int .i64 to, .int .i64 now] w [uE up c ⟨A, m, ck⟩ i inc count wb, uW wb ws] fun v hs2 => ∃ H, List.Sublist H hs2 ∧ ∃ A' c' E', v = .tuple #[.slice A' (sealX (pingS i to (firstOf inc + (count + 1#64))) (pairOf m i to).1).1.length c', .int .i64 (sealX (pingS i to (firstOf inc + (count + 1#64))) (pairOf m i to).1).2] ∧ Own A' (sealX (pingS i to (firstOf inc + (count + 1#64))) (pairOf m i to).1).1 c' E' ∧
      H = uE up c ⟨A, m, ck⟩ i inc (count + 1#64) wb :: uW wb (ws.set to.toNat (firstOf inc + (count + 1#64), now)) :: E' := by
  obtain ⟨⟨ho, hn⟩, hc⟩ := hm
  have hj : to.toNat < ws.length := by omega
  have hb : (decide ((firstOf inc + (count + 1#64), now) ≠ ((0, 0) : BitVec 64 × Int))) = true := decide_eq_true (nonce_ne hin hc now)
  refine mut_vc tab_ok Tryz.func35 rfl rfl hw ?_
  repeat' ((try (conv => whnf)); (first | (refine Pick.kp ?_; first | refine Pick.mk pm35_8 (by decide +kernel) ?_ | refine Pick.mk _ (add_u64 count 1#64) ?_ | refine Pick.mk _ (conv_i64_64 inc) ?_ | refine Pick.mk _ (shl_first inc) ?_ | refine Pick.mk _ (add_u64 (firstOf inc) (count + 1#64)) ?_ | refine Pick.mk pl35_6 (by decide +kernel) ?_ | refine Pick.mk pl35_8 (by decide +kernel) ?_) | (refine QuietVC.kp ?_; first | refine QuietVC.ite (fun w2 h2 => retime_v now w2) (fun _ => ?_) (fun hx => absurd hn hx)) | (refine CallVC.kp ?_; first | refine CallVC.ite (fun w2 h2 => retime_v now w2) (fun _ => ?_) (fun hx => absurd hn hx) | (refine CallVC.givesXt (fun w2 h2 => rpair_r A m ck i to hck w2 (hM.here h2 hd)) (fun Ak c3 Ek hlk hOk => ?_)) | (refine CallVC.givesXt (fun w2 h2 => rseal_r ⟨2, i, to, 0, 0, 0, firstOf inc + (count + 1#64), 0, 0, 0, slNil, slNil, slNil⟩ Ak (pairOf m i to).1 c3 hlk w2 (ownK_at (own_k hOk) (by repeat (first | exact List.Sublist.refl _ | exact List.nil_sublist _ | exact List.sublist_append_right _ _ | refine List.Sublist.trans ?_ (List.sublist_append_left _ _) | refine List.Sublist.cons _ ?_)) h2) ⟨At.nil, At.nil, At.nil⟩) (fun A' c' E' hl' hO' => ?_))) | (refine StoreVC.kp ?_; first | refine store_Wb (n := firstOf inc + (count + 1#64)) (t := now) hb hj (by repeat (first | exact Upd.head _ | apply Upd.tail)) ?_) | refine Need.mk (List.sublist_append_left _ _) ?_ | refine Need.au ?_ | (refine Split.mk (fun hsplit => ?_) (fun hsplit => ?_) <;> (try simp only [List.cons.injEq, and_true, true_and, not_true_eq_false, not_false_eq_true] at hsplit) <;> try (exfalso; omega)) | refine Pick.au ?_ | refine store_au ?_ | refine Any.mk (fun _ => ?_) | refine Both.mk ?_ ?_)); all_goals (try (conv => whnf))
  exact Done.mk ⟨_, List.Sublist.cons_cons _ (List.Sublist.cons_cons _ (List.sublist_append_right Ek E')), A', c', E', rfl, hO', rfl⟩
theorem uask_no (to now : Int) (hm : ¬ mayAsk c i to now count) (hP : At w (some ⟨up, 0, none⟩) (uCs c ⟨A, m, ck⟩ i inc count wb)) :
    Val Tryz.prog 35 [.pointer (some ⟨up, 0, none⟩), .int .i64 to, .int .i64 now] w (.tuple #[.slice none 0 0, .int .i64 (if otherP c i to ∧ 0 ≤ now ∧ now ≤ 1099511627776 then 9 else 1)]) := by
  by_cases ho : otherP c i to ∧ 0 ≤ now ∧ now ≤ 1099511627776
  · rw [if_pos ho]
    have hc : ¬ (count.toNat : Int) < 4294967295 := fun h => hm ⟨ho, h⟩
    obtain ⟨ho, hn⟩ := ho
    refine val_vc tab_ok Tryz.func35 rfl rfl ?_
    repeat' ((try (conv => whnf)); (first | (refine Pick.kp ?_; first | refine Pick.mk pm35_8 (by decide +kernel) ?_ | refine Pick.mk _ (cell_known hP (by simp) rfl) ?_ | refine Pick.mk pl35_6 (by decide +kernel) ?_ | refine Pick.mk pl35_8 (by decide +kernel) ?_) | (refine CallVC.kp ?_; first | refine CallVC.ite (fun w2 h2 => retime_v now w2) (fun _ => ?_) (fun hx => absurd hn hx)) | refine Need.au ?_ | (refine Split.mk (fun hsplit => ?_) (fun hsplit => ?_) <;> (try simp only [List.cons.injEq, and_true, true_and, not_true_eq_false, not_false_eq_true] at hsplit) <;> try (exfalso; omega)) | refine Pick.au ?_ | refine store_au ?_ | refine Any.mk (fun _ => ?_) | refine Both.mk ?_ ?_)); all_goals (try (conv => whnf))
    all_goals exact Done.mk rfl
  · rw [if_neg ho]
    refine val_vc tab_ok Tryz.func35 rfl rfl ?_
    repeat' ((try (conv => whnf)); (first | (refine Pick.kp ?_; first | refine Pick.mk pm35_8 (by decide +kernel) ?_ | refine Pick.mk _ (cell_known hP (by simp) rfl) ?_ | refine Pick.mk pl35_6 (by decide +kernel) ?_ | refine Pick.mk pl35_8 (by decide +kernel) ?_) | (refine CallVC.kp ?_; first | refine CallVC.ite (fun w2 h2 => retime_v now w2) (fun hn => ?_) (fun hx => ?_)) | refine Need.au ?_ | (refine Split.mk (fun hsplit => ?_) (fun hsplit => ?_) <;> (try simp only [List.cons.injEq, and_true, true_and, not_true_eq_false, not_false_eq_true] at hsplit) <;> try (exfalso; omega)) | refine Pick.au ?_ | refine store_au ?_ | refine Any.mk (fun _ => ?_) | refine Both.mk ?_ ?_)); all_goals (try (conv => whnf))
    all_goals first | exact Done.mk rfl | (exfalso; omega)
end
end
section
set_option linter.unusedVariables false
set_option linter.unusedSimpArgs false
set_option maxRecDepth 100000
set_option maxHeartbeats 8000000
open Go
attribute [local irreducible] bitsOf shlOf shrOf pack numBits bytesBits coreBits crcSum tagOf macKey FrS.ok frameBytes sealX getX holdsX mostX
section
variable (up wb : Nat) (c : Cfg) (A : Option Addr) (m : List B8) (ck : Nat) (i inc : Int) (count : BitVec 64) (w : World)
theorem uopen_r (B : Option Addr) (l : List B8) (cl : Nat) (hl : l.length ≤ 140737488351232) (hcl : l.length ≤ cl) (hck : m.length ≤ ck) (hB : At w B (l.map b8)) (hP : At w (some ⟨up, 0, none⟩) (uCs c ⟨A, m, ck⟩ i inc count wb)) (hM : At w A (m.map b8)) :
    Ret Tryz.prog 36 [.pointer (some ⟨up, 0, none⟩), .slice B l.length cl] w (GivesF (openE m i l)) := by
  unfold openE
  obtain ⟨s, e, hr⟩ : ∃ s e, getX l = (s, e) := ⟨_, _, rfl⟩
  rw [hr]
  dsimp only
  by_cases he : e = 0
  · subst he
    rw [if_pos rfl]
    by_cases hk : s.kind = 1 ∨ s.to ≠ i
    · rw [if_pos hk]
      refine ret_vc tab_ok Tryz.func36 rfl rfl ?_
      repeat' ((try (conv => whnf)); (first | (refine Pick.kp ?_; first | refine Pick.mk pm36_6 (by decide +kernel) ?_ | refine Pick.mk _ (cell_known hP (by simp) rfl) ?_ | refine Pick.mk pl36_4 (by decide +kernel) ?_ | refine Pick.mk pl36_6 (by decide +kernel) ?_) | (refine CallVC.kp ?_; first | (refine CallVC.givesF (fun w2 h2 => hr ▸ rfget_r B l cl hl hcl w2 (hB.here h2 (fun _ _ => by simp))) (fun f E hf hO => have hk2 : f.kind = 1 ∨ f.to ≠ i := (by rw [← hf] at hk; exact hk); ?_))) | (refine StoreVC.kp ?_; first | (refine store_frame f (by repeat (first | exact Upd.head _ | apply Upd.tail)) rfl ?_)) | refine Need.mk (List.sublist_append_left _ _) ?_ | refine Need.au ?_ | (refine Split.mk (fun hsplit => ?_) (fun hsplit => ?_) <;> (try simp only [List.cons.injEq, and_true, true_and, not_true_eq_false, not_false_eq_true] at hsplit) <;> try (exfalso; omega)) | refine Pick.au ?_ | refine store_au ?_ | refine Any.mk (fun _ => ?_) | refine Both.mk ?_ ?_)); all_goals (try (conv => whnf))
      all_goals exact Done.mk (GivesF.no rfl)
    · rw [if_neg hk]
      cases hh : holdsX s (pairOf m i s.frm).1
      · rw [if_neg (by decide)]
        refine ret_vc tab_ok Tryz.func36 rfl rfl ?_
        repeat' ((try (conv => whnf)); (first | (refine Pick.kp ?_; first | refine Pick.mk pm36_6 (by decide +kernel) ?_ | refine Pick.mk _ (cell_known hP (by simp) rfl) ?_ | refine Pick.mk pl36_4 (by decide +kernel) ?_ | refine Pick.mk pl36_6 (by decide +kernel) ?_) | (refine CallVC.kp ?_; first | (refine CallVC.givesF (fun w2 h2 => hr ▸ rfget_r B l cl hl hcl w2 (hB.here h2 (fun _ _ => by simp))) (fun f E hf hO => have hk2 : ¬ (f.kind = 1 ∨ f.to ≠ i) := (by rw [← hf] at hk; exact hk); ?_)) | (refine CallVC.givesXt (xs := (pairOf m i f.frm).1) (e := (pairOf m i f.frm).2) (fun w2 h2 => pairOf_comm m i f.frm ▸ rpair_r A m ck f.frm i hck w2 (hM.here h2 (fun _ _ => by simp))) (fun Ak c3 Ek hlk hOk => ?_)) | (refine CallVC.val (v := .bool false) (fun w2 h2 => by have := rholds_v f Ak (pairOf m i f.frm).1 c3 hlk w2 (ownK_at (own_k hOk) (by repeat (first | exact List.Sublist.refl _ | exact List.nil_sublist _ | exact List.sublist_append_right _ _ | refine List.Sublist.trans ?_ (List.sublist_append_left _ _) | refine List.Sublist.cons _ ?_)) h2) (fown_at hO (by repeat (first | exact List.Sublist.refl _ | exact List.nil_sublist _ | exact List.sublist_append_right _ _ | refine List.Sublist.trans ?_ (List.sublist_append_left _ _) | refine List.Sublist.cons _ ?_)) h2); rw [← hf] at hh; rwa [show holdsX f.s (pairOf m i f.frm).1 = false from hh] at this) ?_)) | (refine StoreVC.kp ?_; first | (refine store_frame f (by repeat (first | exact Upd.head _ | apply Upd.tail)) rfl ?_)) | refine Need.mk (List.sublist_append_left _ _) ?_ | refine Need.au ?_ | (refine Split.mk (fun hsplit => ?_) (fun hsplit => ?_) <;> (try simp only [List.cons.injEq, and_true, true_and, not_true_eq_false, not_false_eq_true] at hsplit) <;> try (exfalso; omega)) | refine Pick.au ?_ | refine store_au ?_ | refine Any.mk (fun _ => ?_) | refine Both.mk ?_ ?_)); all_goals (try (conv => whnf))
        all_goals exact Done.mk (GivesF.no rfl)
      · rw [if_pos rfl]
        refine ret_vc tab_ok Tryz.func36 rfl rfl ?_
        repeat' ((try (conv => whnf)); (first | (refine Pick.kp ?_; first | refine Pick.mk pm36_6 (by decide +kernel) ?_ | refine Pick.mk _ (cell_known hP (by simp) rfl) ?_ | refine Pick.mk pl36_4 (by decide +kernel) ?_ | refine Pick.mk pl36_6 (by decide +kernel) ?_) | (refine CallVC.kp ?_; first | (refine CallVC.givesF (fun w2 h2 => hr ▸ rfget_r B l cl hl hcl w2 (hB.here h2 (fun _ _ => by simp))) (fun f E hf hO => have hk2 : ¬ (f.kind = 1 ∨ f.to ≠ i) := (by rw [← hf] at hk; exact hk); ?_)) | (refine CallVC.givesXt (xs := (pairOf m i f.frm).1) (e := (pairOf m i f.frm).2) (fun w2 h2 => pairOf_comm m i f.frm ▸ rpair_r A m ck f.frm i hck w2 (hM.here h2 (fun _ _ => by simp))) (fun Ak c3 Ek hlk hOk => ?_)) | (refine CallVC.val (v := .bool true) (fun w2 h2 => by have := rholds_v f Ak (pairOf m i f.frm).1 c3 hlk w2 (ownK_at (own_k hOk) (by repeat (first | exact List.Sublist.refl _ | exact List.nil_sublist _ | exact List.sublist_append_right _ _ | refine List.Sublist.trans ?_ (List.sublist_append_left _ _) | refine List.Sublist.cons _ ?_)) h2) (fown_at hO (by repeat (first | exact List.Sublist.refl _ | exact List.nil_sublist _ | exact List.sublist_append_right _ _ | refine List.Sublist.trans ?_ (List.sublist_append_left _ _) | refine List.Sublist.cons _ ?_)) h2); rw [← hf] at hh; rwa [show holdsX f.s (pairOf m i f.frm).1 = true from hh] at this) ?_)) | (refine StoreVC.kp ?_; first | (refine store_frame f (by repeat (first | exact Upd.head _ | apply Upd.tail)) rfl ?_)) | refine Need.mk (List.sublist_append_left _ _) ?_ | refine Need.au ?_ | (refine Split.mk (fun hsplit => ?_) (fun hsplit => ?_) <;> (try simp only [List.cons.injEq, and_true, true_and, not_true_eq_false, not_false_eq_true] at hsplit) <;> try (exfalso; omega)) | refine Pick.au ?_ | refine store_au ?_ | refine Any.mk (fun _ => ?_) | refine Both.mk ?_ ?_)); all_goals (try (conv => whnf))
        all_goals exact Done.mk ⟨f, E, rfl, hf, hO, (by repeat (first | exact List.Sublist.refl _ | exact List.nil_sublist _ | exact List.sublist_append_right _ _ | refine List.Sublist.trans ?_ (List.sublist_append_left _ _) | refine List.Sublist.cons _ ?_))⟩
  · rw [if_neg he]
    refine ret_vc tab_ok Tryz.func36 rfl rfl ?_
    repeat' ((try (conv => whnf)); (first | (refine Pick.kp ?_; first | refine Pick.mk pm36_6 (by decide +kernel) ?_ | refine Pick.mk pl36_4 (by decide +kernel) ?_ | refine Pick.mk pl36_6 (by decide +kernel) ?_) | (refine CallVC.kp ?_; first | (refine CallVC.givesF (fun w2 h2 => hr ▸ rfget_r B l cl hl hcl w2 (hB.here h2 (fun _ _ => by simp))) (fun f E hf hO => ?_))) | (refine StoreVC.kp ?_; first | (refine store_frame f (by repeat (first | exact Upd.head _ | apply Upd.tail)) rfl ?_)) | refine Need.mk (List.sublist_append_left _ _) ?_ | refine Need.au ?_ | (refine Split.mk (fun hsplit => ?_) (fun hsplit => ?_) <;> (try simp only [List.cons.injEq, and_true, true_and, not_true_eq_false, not_false_eq_true] at hsplit) <;> try (exfalso; omega)) | refine Pick.au ?_ | refine store_au ?_ | refine Any.mk (fun _ => ?_) | refine Both.mk ?_ ?_)); all_goals (try (conv => whnf))
    all_goals exact Done.mk (GivesF.no rfl)
theorem ureply_yes (f : Fr) (now e st ix : Int) (B : Option Addr) (key : List B8) (cb : Nat) (hm : f.kind = 2 ∧ f.to = i ∧ f.ok) (hck : m.length ≤ ck) (hB : At w B (key.map b8)) (hP : At w (some ⟨up, 0, none⟩) (uCs c ⟨A, m, ck⟩ i inc count wb)) (hM : At w A (m.map b8)) :
    Ret Tryz.prog 37 [.pointer (some ⟨up, 0, none⟩), f.v, .int .i64 now, .int .i64 e, .int .i64 st, .int .i64 ix, .slice B key.length cb] w (GivesX (sealX (pongR i f now e st ix ⟨B, key, cb⟩).s (pairOf m i f.frm).1).1 (sealX (pongR i f now e st ix ⟨B, key, cb⟩).s (pairOf m i f.frm).1).2) := by
  obtain ⟨h1, h2, h3⟩ := hm
  refine ret_vc tab_ok Tryz.func37 rfl rfl ?_
  repeat' ((try (conv => whnf)); (first | (refine Pick.kp ?_; first | refine Pick.mk pm37_3 (by decide +kernel) ?_ | refine Pick.mk pm37_4 (by decide +kernel) ?_ | refine Pick.mk _ (cell_known hP (by simp) rfl) ?_ | refine Pick.mk pl37_1 (by decide +kernel) ?_ | refine Pick.mk pl37_3 (by decide +kernel) ?_ | refine Pick.mk pl37_4 (by decide +kernel) ?_) | (refine StoreVC.kp ?_; first | (refine store_frame f (by repeat (first | exact Upd.head _ | apply Upd.tail)) rfl ?_)) | (refine QuietVC.kp ?_; first | refine QuietVC.val (fun w2 h2 => rcheck_yes f h3 w2) ?_) | (refine CallVC.kp ?_; first | refine CallVC.val (fun w2 h2 => rcheck_yes f h3 w2) ?_ | (refine CallVC.givesXt (xs := (pairOf m i f.frm).1) (e := (pairOf m i f.frm).2) (fun w2 h2 => pairOf_comm m i f.frm ▸ rpair_r A m ck f.frm i hck w2 (hM.here h2 (fun _ _ => by simp))) (fun Ak c3 Ek hlk hOk => ?_)) | (refine CallVC.givesXt (fun w2 h2 => rseal_r (pongR i f now e st ix ⟨B, key, cb⟩) Ak (pairOf m i f.frm).1 c3 hlk w2 (ownK_at (own_k hOk) (by repeat (first | exact List.Sublist.refl _ | exact List.nil_sublist _ | exact List.sublist_append_right _ _ | refine List.Sublist.trans ?_ (List.sublist_append_left _ _) | refine List.Sublist.cons _ ?_)) h2) ⟨hB.here h2 (fun _ _ => by simp), At.nil, At.nil⟩) (fun A' c' E' hl' hO' => ?_))) | refine Need.mk (List.sublist_append_left _ _) ?_ | refine Need.au ?_ | (refine Split.mk (fun hsplit => ?_) (fun hsplit => ?_) <;> (try simp only [List.cons.injEq, and_true, true_and, not_true_eq_false, not_false_eq_true] at hsplit) <;> try (exfalso; omega)) | refine Pick.au ?_ | refine store_au ?_ | refine Any.mk (fun _ => ?_) | refine Both.mk ?_ ?_)); all_goals (try (conv => whnf))
  exact Done.mk ⟨_, _, _, rfl, hl', hO', (by repeat (first | exact List.Sublist.refl _ | exact List.nil_sublist _ | exact List.sublist_append_right _ _ | refine List.Sublist.trans ?_ (List.sublist_append_left _ _) | refine List.Sublist.cons _ ?_))⟩
theorem ureply_no (f : Fr) (now e st ix : Int) (B : Option Addr) (n cb : Nat) (hm : ¬ (f.kind = 2 ∧ f.to = i ∧ f.ok)) (hP : At w (some ⟨up, 0, none⟩) (uCs c ⟨A, m, ck⟩ i inc count wb)) :
    Ret Tryz.prog 37 [.pointer (some ⟨up, 0, none⟩), f.v, .int .i64 now, .int .i64 e, .int .i64 st, .int .i64 ix, .slice B n cb] w (GivesX [] 1) := by
  by_cases h1 : f.kind = 2
  · by_cases h2 : f.to = i
    · have h3 : ¬ f.ok := fun h => hm ⟨h1, h2, h⟩
      refine ret_vc tab_ok Tryz.func37 rfl rfl ?_
      repeat' ((try (conv => whnf)); (first | (refine Pick.kp ?_; first | refine Pick.mk pm37_3 (by decide +kernel) ?_ | refine Pick.mk pm37_4 (by decide +kernel) ?_ | refine Pick.mk _ (cell_known hP (by simp) rfl) ?_ | refine Pick.mk pl37_1 (by decide +kernel) ?_ | refine Pick.mk pl37_3 (by decide +kernel) ?_ | refine Pick.mk pl37_4 (by decide +kernel) ?_) | (refine StoreVC.kp ?_; first | (refine store_frame f (by repeat (first | exact Upd.head _ | apply Upd.tail)) rfl ?_)) | (refine QuietVC.kp ?_; first | refine QuietVC.val (fun w2 h2 => rcheck_no f h3 w2) ?_) | (refine CallVC.kp ?_; first | refine CallVC.val (fun w2 h2 => rcheck_no f h3 w2) ?_) | refine Need.mk (List.sublist_append_left _ _) ?_ | refine Need.au ?_ | (refine Split.mk (fun hsplit => ?_) (fun hsplit => ?_) <;> (try simp only [List.cons.injEq, and_true, true_and, not_true_eq_false, not_false_eq_true] at hsplit) <;> try (exfalso; omega)) | refine Pick.au ?_ | refine store_au ?_ | refine Any.mk (fun _ => ?_) | refine Both.mk ?_ ?_)); all_goals (try (conv => whnf))
      all_goals exact Done.mk GivesX.no
    · refine ret_vc tab_ok Tryz.func37 rfl rfl ?_
      repeat' ((try (conv => whnf)); (first | (refine Pick.kp ?_; first | refine Pick.mk pm37_3 (by decide +kernel) ?_ | refine Pick.mk pm37_4 (by decide +kernel) ?_ | refine Pick.mk _ (cell_known hP (by simp) rfl) ?_ | refine Pick.mk pl37_1 (by decide +kernel) ?_ | refine Pick.mk pl37_3 (by decide +kernel) ?_ | refine Pick.mk pl37_4 (by decide +kernel) ?_) | (refine StoreVC.kp ?_; first | (refine store_frame f (by repeat (first | exact Upd.head _ | apply Upd.tail)) rfl ?_)) | refine Need.mk (List.sublist_append_left _ _) ?_ | refine Need.au ?_ | (refine Split.mk (fun hsplit => ?_) (fun hsplit => ?_) <;> (try simp only [List.cons.injEq, and_true, true_and, not_true_eq_false, not_false_eq_true] at hsplit) <;> try (exfalso; omega)) | refine Pick.au ?_ | refine store_au ?_ | refine Any.mk (fun _ => ?_) | refine Both.mk ?_ ?_)); all_goals (try (conv => whnf))
      all_goals exact Done.mk GivesX.no
  · refine ret_vc tab_ok Tryz.func37 rfl rfl ?_
    repeat' ((try (conv => whnf)); (first | (refine Pick.kp ?_; first | refine Pick.mk pm37_3 (by decide +kernel) ?_ | refine Pick.mk pm37_4 (by decide +kernel) ?_ | refine Pick.mk _ (cell_known hP (by simp) rfl) ?_ | refine Pick.mk pl37_1 (by decide +kernel) ?_ | refine Pick.mk pl37_3 (by decide +kernel) ?_ | refine Pick.mk pl37_4 (by decide +kernel) ?_) | (refine StoreVC.kp ?_; first | (refine store_frame f (by repeat (first | exact Upd.head _ | apply Upd.tail)) rfl ?_)) | refine Need.mk (List.sublist_append_left _ _) ?_ | refine Need.au ?_ | (refine Split.mk (fun hsplit => ?_) (fun hsplit => ?_) <;> (try simp only [List.cons.injEq, and_true, true_and, not_true_eq_false, not_false_eq_true] at hsplit) <;> try (exfalso; omega)) | refine Pick.au ?_ | refine store_au ?_ | refine Any.mk (fun _ => ?_) | refine Both.mk ?_ ?_)); all_goals (try (conv => whnf))
    all_goals exact Done.mk GivesX.no
end
end
section
set_option linter.unusedVariables false
set_option linter.unusedSimpArgs false
set_option maxRecDepth 100000
set_option maxHeartbeats 8000000
open Go
theorem take_set (n j : Nat) (x : BitVec 64 × Int) (l : List (BitVec 64 × Int)) : (l.set j x).take n = (l.take n).set j x := by rw [List.take_set]
theorem take_getD {n j : Nat} (h : j < n) (l : List (BitVec 64 × Int)) : (l.take n).getD j (0, 0) = l.getD j (0, 0) := by
  rw [List.getD_eq_getElem?_getD, List.getD_eq_getElem?_getD, List.getElem?_take, if_pos h]
theorem hearX_take {c : Cfg} {i : Int} {wait : List (BitVec 64 × Int)} {s : FrS} {now : Int} (h0 : s.ok → 0 ≤ s.frm) :
    hearX c i (wait.take c.n.toNat) s now = ((hearX c i wait s now).1, (hearX c i wait s now).2.1, (hearX c i wait s now).2.2.1, (hearX c i wait s now).2.2.2.take c.n.toNat) := by
  unfold hearX
  by_cases hp : hearP c i now s
  · have hj : s.frm.toNat < c.n.toNat := by
      have := h0 hp.2.2.1
      have := hp.2.2.2.1
      omega
    simp only [if_pos hp, take_getD hj]
    by_cases hm : missP (wait.getD s.frm.toNat (0, 0)) s now
    · simp only [if_pos hm]
    · simp only [if_neg hm]
      by_cases hl : c.win < now - (wait.getD s.frm.toNat (0, 0)).2
      · simp only [if_pos hl, take_set]
      · simp only [if_neg hl, take_set]
  · simp only [if_neg hp]
attribute [local irreducible] bitsOf shlOf shrOf pack numBits bytesBits coreBits crcSum tagOf macKey FrS.ok frameBytes sealX getX holdsX mostX
section
variable (up wb : Nat) (c : Cfg) (A : Option Addr) (m : List B8) (ck : Nat) (i inc : Int) (count : BitVec 64) (ws : List (BitVec 64 × Int)) (w : World)
/-- What the document's Hear hands back. -/
def HearU (up wb : Nat) (c : Cfg) (M : Sl) (i inc : Int) (count : BitVec 64) (f : Fr) (x : Ans × List B8 × Int × List (BitVec 64 × Int)) (v : Value) (hs2 : Hp) : Prop :=
  ∃ H, List.Sublist H hs2 ∧ ∃ S : Sl, S.l = x.2.1 ∧ (S = f.key ∨ S = slNil) ∧ v = .tuple #[x.1.v S.v, .int .i64 x.2.2.1] ∧ H = [uE up c M i inc count wb, uW wb x.2.2.2]
theorem uhear_bad (f : Fr) (now : Int) (hc : c.ok) (hwl : ws.length = c.n.toNat) (hwt : InTime ws) (hw : St ⟨Tryz.prog, w, [up, wb]⟩ [uE up c ⟨A, m, ck⟩ i inc count wb, uW wb ws] w) (hp : ¬ hearP c i now f.s) : Mut Tryz.prog 38 [.pointer (some ⟨up, 0, none⟩), f.v, .int .i64 now] w [uE up c ⟨A, m, ck⟩ i inc count wb, uW wb ws] (HearU up wb c ⟨A, m, ck⟩ i inc count f (Ans.zero, [], 1, ws)) := by
  have hn8 : 1 ≤ c.n ∧ c.n ≤ 8 := by unfold Cfg.ok at hc; exact ⟨hc.1, hc.2.1⟩
  clear hc
  by_cases hk : f.kind = 3 ∧ f.to = i
  · by_cases ho : f.ok
    · have hp2 : ¬ (f.frm < c.n ∧ 0 ≤ now ∧ now ≤ 1099511627776) := fun h => hp ⟨hk.1, hk.2, (ok_s f).2 ho, h⟩
      refine mut_vc tab_ok Tryz.func38 rfl rfl hw ?_
      repeat' ((try (conv => whnf)); (first | (refine StoreVC.kp ?_; first | (refine store_frame f (by repeat (first | exact Upd.head _ | apply Upd.tail)) rfl ?_)) | (refine QuietVC.kp ?_; first | refine QuietVC.val (fun w2 h2 => rcheck_yes f ho w2) ?_ | refine QuietVC.ite (fun w2 h2 => retime_v now w2) (fun _ => ?_) (fun _ => ?_)) | (refine Pick.kp ?_; first | refine Pick.mk pl38_1 (by decide +kernel) ?_ | refine Pick.mk pl38_3 (by decide +kernel) ?_ | refine Pick.mk pl38_6 (by decide +kernel) ?_ | refine Pick.mk pl38_7 (by decide +kernel) ?_ | refine Pick.mk pl38_9 (by decide +kernel) ?_) | refine Need.mk (List.sublist_append_left _ _) ?_ | refine Need.au ?_ | (refine Split.mk (fun hsplit => ?_) (fun hsplit => ?_) <;> (try simp only [List.cons.injEq, and_true, true_and, not_true_eq_false, not_false_eq_true] at hsplit) <;> try (exfalso; omega)) | refine Pick.au ?_ | refine store_au ?_ | refine Any.mk (fun _ => ?_) | refine Both.mk ?_ ?_)); all_goals (try (conv => whnf))
      all_goals first | (exfalso; omega) | exact Done.mk ⟨[_, _], (by repeat (first | exact List.nil_sublist _ | refine List.Sublist.cons_cons _ ?_ | refine List.Sublist.cons _ ?_)), slNil, rfl, .inr rfl, rfl, rfl⟩
    · refine mut_vc tab_ok Tryz.func38 rfl rfl hw ?_
      repeat' ((try (conv => whnf)); (first | (refine StoreVC.kp ?_; first | (refine store_frame f (by repeat (first | exact Upd.head _ | apply Upd.tail)) rfl ?_)) | (refine QuietVC.kp ?_; first | refine QuietVC.val (fun w2 h2 => rcheck_no f ho w2) ?_) | (refine Pick.kp ?_; first | refine Pick.mk pl38_1 (by decide +kernel) ?_ | refine Pick.mk pl38_3 (by decide +kernel) ?_ | refine Pick.mk pl38_6 (by decide +kernel) ?_ | refine Pick.mk pl38_7 (by decide +kernel) ?_ | refine Pick.mk pl38_9 (by decide +kernel) ?_) | refine Need.mk (List.sublist_append_left _ _) ?_ | refine Need.au ?_ | (refine Split.mk (fun hsplit => ?_) (fun hsplit => ?_) <;> (try simp only [List.cons.injEq, and_true, true_and, not_true_eq_false, not_false_eq_true] at hsplit) <;> try (exfalso; omega)) | refine Pick.au ?_ | refine store_au ?_ | refine Any.mk (fun _ => ?_) | refine Both.mk ?_ ?_)); all_goals (try (conv => whnf))
      all_goals first | (exfalso; omega) | exact Done.mk ⟨[_, _], (by repeat (first | exact List.nil_sublist _ | refine List.Sublist.cons_cons _ ?_ | refine List.Sublist.cons _ ?_)), slNil, rfl, .inr rfl, rfl, rfl⟩
  · refine mut_vc tab_ok Tryz.func38 rfl rfl hw ?_
    repeat' ((try (conv => whnf)); (first | (refine StoreVC.kp ?_; first | (refine store_frame f (by repeat (first | exact Upd.head _ | apply Upd.tail)) rfl ?_)) | (refine Pick.kp ?_; first | refine Pick.mk pl38_1 (by decide +kernel) ?_ | refine Pick.mk pl38_3 (by decide +kernel) ?_ | refine Pick.mk pl38_6 (by decide +kernel) ?_ | refine Pick.mk pl38_7 (by decide +kernel) ?_ | refine Pick.mk pl38_9 (by decide +kernel) ?_) | refine Need.mk (List.sublist_append_left _ _) ?_ | refine Need.au ?_ | (refine Split.mk (fun hsplit => ?_) (fun hsplit => ?_) <;> (try simp only [List.cons.injEq, and_true, true_and, not_true_eq_false, not_false_eq_true] at hsplit) <;> try (exfalso; omega)) | refine Pick.au ?_ | refine store_au ?_ | refine Any.mk (fun _ => ?_) | refine Both.mk ?_ ?_)); all_goals (try (conv => whnf))
    all_goals first | (exfalso; omega) | exact Done.mk ⟨[_, _], (by repeat (first | exact List.nil_sublist _ | refine List.Sublist.cons_cons _ ?_ | refine List.Sublist.cons _ ?_)), slNil, rfl, .inr rfl, rfl, rfl⟩
theorem uhear_none (f : Fr) (now : Int) (hc : c.ok) (hwl : ws.length = c.n.toNat) (hwt : InTime ws) (hw : St ⟨Tryz.prog, w, [up, wb]⟩ [uE up c ⟨A, m, ck⟩ i inc count wb, uW wb ws] w) (hp : hearP c i now f.s) (n : BitVec 64) (t : Int) (hq : ws.getD f.frm.toNat (0, 0) = (n, t)) (b : Bool) (hb : decide ((n, t) ≠ ((0, 0) : BitVec 64 × Int)) = b) (hm : b = false ∨ (b = true ∧ (¬ ((n.toNat : Int) = (f.nonce.toNat : Int)) ∨ now < t))) : Mut Tryz.prog 38 [.pointer (some ⟨up, 0, none⟩), f.v, .int .i64 now] w [uE up c ⟨A, m, ck⟩ i inc count wb, uW wb ws] (HearU up wb c ⟨A, m, ck⟩ i inc count f (Ans.zero, [], 6, ws)) := by
  obtain ⟨h1, h2', h3, h4, h5⟩ := hp
  have h1 : f.kind = 3 := h1
  have h2' : f.to = i := h2'
  have h4 : f.frm < c.n := h4
  have ho : f.ok := (ok_s f).1 h3
  have hok := ho
  unfold Fr.ok at hok
  obtain ⟨⟨hfr, _, _, _, _, _, _, hst1, hst2, _⟩, hri⟩ := hok
  have hj : f.frm.toNat < ws.length := by omega
  have ht : 0 ≤ t ∧ t ≤ 1099511627776 := by have := hwt.at f.frm.toNat; rw [hq] at this; exact this
  have hr : ∀ (G : Cx) (hs : Hp), uW wb ws ∈ hs → [.bool b, w64 n, .int .i64 t].length = 3 ∧ G.cellsAre hs (Addr.add ⟨wb, 0, none⟩ (f.frm.toNat * 3)) [.bool b, w64 n, .int .i64 t] := fun G hs hm => by have := W_own (G := G) (hs := hs) hm hj; rw [hq] at this; rw [← hb]; exact this
  have hcw : 100 ≤ c.win ∧ c.win ≤ 40000 ∧ 0 ≤ c.rho ∧ c.rho ≤ 5 ∧ 0 ≤ c.slew ∧ c.slew ≤ 5 := by unfold Cfg.ok at hc; omega
  clear hc h3 hri
  refine mut_vc tab_ok Tryz.func38 rfl rfl hw ?_
  rcases hm with rfl | ⟨rfl, hm⟩
  all_goals
    repeat' ((try (conv => whnf)); (first | (refine StoreVC.kp ?_; first | (refine store_frame f (by repeat (first | exact Upd.head _ | apply Upd.tail)) rfl ?_)) | (refine QuietVC.kp ?_; first | refine QuietVC.val (fun w2 h2 => rcheck_yes f ho w2) ?_ | refine QuietVC.ite (fun w2 h2 => retime_v now w2) (fun _ => ?_) (fun hx => absurd h5 hx)) | (refine Pick.kp ?_; first | refine Pick.mk _ (hr _ _ (by repeat (first | exact List.Mem.head _ | refine List.Mem.tail _ ?_))) ?_ | refine Pick.mk pl38_1 (by decide +kernel) ?_ | refine Pick.mk pl38_3 (by decide +kernel) ?_ | refine Pick.mk pl38_6 (by decide +kernel) ?_ | refine Pick.mk pl38_7 (by decide +kernel) ?_ | refine Pick.mk pl38_9 (by decide +kernel) ?_) | refine Need.mk (List.sublist_append_left _ _) ?_ | refine Need.au ?_ | (refine Split.mk (fun hsplit => ?_) (fun hsplit => ?_) <;> (try simp only [List.cons.injEq, and_true, true_and, not_true_eq_false, not_false_eq_true] at hsplit) <;> try (exfalso; omega)) | refine Pick.au ?_ | refine store_au ?_ | refine Any.mk (fun _ => ?_) | refine Both.mk ?_ ?_)); all_goals (try (conv => whnf))
    all_goals exact Done.mk ⟨[_, _], (by repeat (first | exact List.nil_sublist _ | refine List.Sublist.cons_cons _ ?_ | refine List.Sublist.cons _ ?_)), slNil, rfl, .inr rfl, rfl, rfl⟩
theorem uhear_late (f : Fr) (now : Int) (hc : c.ok) (hwl : ws.length = c.n.toNat) (hwt : InTime ws) (hw : St ⟨Tryz.prog, w, [up, wb]⟩ [uE up c ⟨A, m, ck⟩ i inc count wb, uW wb ws] w) (hp : hearP c i now f.s) (n : BitVec 64) (t : Int) (hq : ws.getD f.frm.toNat (0, 0) = (n, t)) (b : Bool) (hb : decide ((n, t) ≠ ((0, 0) : BitVec 64 × Int)) = b) (hm : b = true ∧ ((n.toNat : Int) = (f.nonce.toNat : Int)) ∧ ¬ now < t) (hl : c.win < now - t) : Mut Tryz.prog 38 [.pointer (some ⟨up, 0, none⟩), f.v, .int .i64 now] w [uE up c ⟨A, m, ck⟩ i inc count wb, uW wb ws] (HearU up wb c ⟨A, m, ck⟩ i inc count f (Ans.zero, [], 12, ws.set f.frm.toNat (0, 0))) := by
  obtain ⟨h1, h2', h3, h4, h5⟩ := hp
  have h1 : f.kind = 3 := h1
  have h2' : f.to = i := h2'
  have h4 : f.frm < c.n := h4
  have ho : f.ok := (ok_s f).1 h3
  have hok := ho
  unfold Fr.ok at hok
  obtain ⟨⟨hfr, _, _, _, _, _, _, hst1, hst2, _⟩, hri⟩ := hok
  have hj : f.frm.toNat < ws.length := by omega
  have ht : 0 ≤ t ∧ t ≤ 1099511627776 := by have := hwt.at f.frm.toNat; rw [hq] at this; exact this
  have hr : ∀ (G : Cx) (hs : Hp), uW wb ws ∈ hs → [.bool b, w64 n, .int .i64 t].length = 3 ∧ G.cellsAre hs (Addr.add ⟨wb, 0, none⟩ (f.frm.toNat * 3)) [.bool b, w64 n, .int .i64 t] := fun G hs hm => by have := W_own (G := G) (hs := hs) hm hj; rw [hq] at this; rw [← hb]; exact this
  have hcw : 100 ≤ c.win ∧ c.win ≤ 40000 ∧ 0 ≤ c.rho ∧ c.rho ≤ 5 ∧ 0 ≤ c.slew ∧ c.slew ≤ 5 := by unfold Cfg.ok at hc; omega
  clear hc h3 hri
  refine mut_vc tab_ok Tryz.func38 rfl rfl hw ?_
  obtain ⟨rfl, hm1, hm2⟩ := hm
  repeat' ((try (conv => whnf)); (first | (refine StoreVC.kp ?_; first | (refine store_frame f (by repeat (first | exact Upd.head _ | apply Upd.tail)) rfl ?_) | refine store_Wb (b := false) (n := 0#64) (t := 0) rfl hj (by repeat (first | exact Upd.head _ | apply Upd.tail)) ?_) | (refine QuietVC.kp ?_; first | refine QuietVC.val (fun w2 h2 => rcheck_yes f ho w2) ?_ | refine QuietVC.ite (fun w2 h2 => retime_v now w2) (fun _ => ?_) (fun hx => absurd h5 hx)) | (refine Pick.kp ?_; first | refine Pick.mk _ (hr _ _ (by repeat (first | exact List.Mem.head _ | refine List.Mem.tail _ ?_))) ?_ | refine Pick.mk pl38_1 (by decide +kernel) ?_ | refine Pick.mk pl38_3 (by decide +kernel) ?_ | refine Pick.mk pl38_6 (by decide +kernel) ?_ | refine Pick.mk pl38_7 (by decide +kernel) ?_ | refine Pick.mk pl38_9 (by decide +kernel) ?_) | refine Need.mk (List.sublist_append_left _ _) ?_ | refine Need.au ?_ | (refine Split.mk (fun hsplit => ?_) (fun hsplit => ?_) <;> (try simp only [List.cons.injEq, and_true, true_and, not_true_eq_false, not_false_eq_true] at hsplit) <;> try (exfalso; omega)) | refine Pick.au ?_ | refine store_au ?_ | refine Any.mk (fun _ => ?_) | refine Both.mk ?_ ?_)); all_goals (try (conv => whnf))
  all_goals exact Done.mk ⟨[_, _], (by repeat (first | exact List.nil_sublist _ | refine List.Sublist.cons_cons _ ?_ | refine List.Sublist.cons _ ?_)), slNil, rfl, .inr rfl, rfl, rfl⟩
theorem uhear_yes (f : Fr) (now : Int) (hc : c.ok) (hwl : ws.length = c.n.toNat) (hwt : InTime ws) (hw : St ⟨Tryz.prog, w, [up, wb]⟩ [uE up c ⟨A, m, ck⟩ i inc count wb, uW wb ws] w) (hp : hearP c i now f.s) (n : BitVec 64) (t : Int) (hq : ws.getD f.frm.toNat (0, 0) = (n, t)) (b : Bool) (hb : decide ((n, t) ≠ ((0, 0) : BitVec 64 × Int)) = b) (hm : b = true ∧ ((n.toNat : Int) = (f.nonce.toNat : Int)) ∧ ¬ now < t) (hl : ¬ c.win < now - t) : Mut Tryz.prog 38 [.pointer (some ⟨up, 0, none⟩), f.v, .int .i64 now] w [uE up c ⟨A, m, ck⟩ i inc count wb, uW wb ws] (HearU up wb c ⟨A, m, ck⟩ i inc count f (ansOf c f.s t now, f.key.l, 0, ws.set f.frm.toNat (0, 0))) := by
  obtain ⟨h1, h2', h3, h4, h5⟩ := hp
  have h1 : f.kind = 3 := h1
  have h2' : f.to = i := h2'
  have h4 : f.frm < c.n := h4
  have ho : f.ok := (ok_s f).1 h3
  have hok := ho
  unfold Fr.ok at hok
  obtain ⟨⟨hfr, _, _, _, _, _, _, hst1, hst2, _⟩, hri⟩ := hok
  have hj : f.frm.toNat < ws.length := by omega
  have ht : 0 ≤ t ∧ t ≤ 1099511627776 := by have := hwt.at f.frm.toNat; rw [hq] at this; exact this
  have hr : ∀ (G : Cx) (hs : Hp), uW wb ws ∈ hs → [.bool b, w64 n, .int .i64 t].length = 3 ∧ G.cellsAre hs (Addr.add ⟨wb, 0, none⟩ (f.frm.toNat * 3)) [.bool b, w64 n, .int .i64 t] := fun G hs hm => by have := W_own (G := G) (hs := hs) hm hj; rw [hq] at this; rw [← hb]; exact this
  have hcw : 100 ≤ c.win ∧ c.win ≤ 40000 ∧ 0 ≤ c.rho ∧ c.rho ≤ 5 ∧ 0 ≤ c.slew ∧ c.slew ≤ 5 := by unfold Cfg.ok at hc; omega
  clear hc h3 hri
  refine mut_vc tab_ok Tryz.func38 rfl rfl hw ?_
  have hbd := most_bnd (now - t) (c.rho + c.slew)
  obtain ⟨rfl, hm1, hm2⟩ := hm
  repeat' ((try (conv => whnf)); (first | (refine StoreVC.kp ?_; first | (refine store_frame f (by repeat (first | exact Upd.head _ | apply Upd.tail)) rfl ?_) | refine store_Wb (b := false) (n := 0#64) (t := 0) rfl hj (by repeat (first | exact Upd.head _ | apply Upd.tail)) ?_) | (refine QuietVC.kp ?_; first | refine QuietVC.val (fun w2 h2 => rcheck_yes f ho w2) ?_ | refine QuietVC.ite (fun w2 h2 => retime_v now w2) (fun _ => ?_) (fun hx => absurd h5 hx) | refine QuietVC.val (fun w2 h2 => r7most_v (now - t) (c.rho + c.slew) w2) ?_) | (refine Pick.kp ?_; first | refine Pick.mk _ (hr _ _ (by repeat (first | exact List.Mem.head _ | refine List.Mem.tail _ ?_))) ?_ | refine Pick.mk pl38_1 (by decide +kernel) ?_ | refine Pick.mk pl38_3 (by decide +kernel) ?_ | refine Pick.mk pl38_6 (by decide +kernel) ?_ | refine Pick.mk pl38_7 (by decide +kernel) ?_ | refine Pick.mk pl38_9 (by decide +kernel) ?_) | (refine CallVC.kp ?_; first | refine CallVC.val (fun w2 h2 => r7most_v (now - t) (c.rho + c.slew) w2) ?_) | refine Need.mk (List.sublist_append_left _ _) ?_ | refine Need.au ?_ | (refine Split.mk (fun hsplit => ?_) (fun hsplit => ?_) <;> (try simp only [List.cons.injEq, and_true, true_and, not_true_eq_false, not_false_eq_true] at hsplit) <;> try (exfalso; omega)) | refine Pick.au ?_ | refine store_au ?_ | refine Any.mk (fun _ => ?_) | refine Both.mk ?_ ?_)); all_goals (try (conv => whnf))
  all_goals exact Done.mk ⟨[_, _], (by repeat (first | exact List.nil_sublist _ | refine List.Sublist.cons_cons _ ?_ | refine List.Sublist.cons _ ?_)), f.key, rfl, .inl rfl, rfl, rfl⟩
theorem uhear_m (f : Fr) (now : Int) (hc : c.ok) (hwl : ws.length = c.n.toNat) (hwt : InTime ws) (hw : St ⟨Tryz.prog, w, [up, wb]⟩ [uE up c ⟨A, m, ck⟩ i inc count wb, uW wb ws] w) : Mut Tryz.prog 38 [.pointer (some ⟨up, 0, none⟩), f.v, .int .i64 now] w [uE up c ⟨A, m, ck⟩ i inc count wb, uW wb ws] (HearU up wb c ⟨A, m, ck⟩ i inc count f (hearX c i ws f.s now)) := by
  unfold hearX
  by_cases hp : hearP c i now f.s
  · rw [if_pos hp]
    obtain ⟨n, t, hq⟩ : ∃ n t, ws.getD f.s.frm.toNat (0, 0) = (n, t) := ⟨_, _, rfl⟩
    rw [hq]
    by_cases hm : missP (n, t) f.s now
    · rw [if_pos hm]
      refine uhear_none up wb c A m ck i inc count ws w f now hc hwl hwt hw hp n t hq _ rfl ?_
      by_cases hz : (n, t) = ((0, 0) : BitVec 64 × Int)
      · exact .inl (decide_eq_false (fun h => h hz))
      · refine .inr ⟨decide_eq_true hz, ?_⟩
        rcases hm with h | h | h
        · exact absurd h hz
        · exact .inl (fun e => h (BitVec.eq_of_toNat_eq (by show n.toNat = f.nonce.toNat; omega)))
        · exact .inr h
    · rw [if_neg hm]
      have hm2 : decide ((n, t) ≠ ((0, 0) : BitVec 64 × Int)) = true ∧ ((n.toNat : Int) = (f.nonce.toNat : Int)) ∧ ¬ now < t := by
        refine ⟨decide_eq_true (fun h => hm (.inl h)), ?_, fun h => hm (.inr (.inr h))⟩
        have e : n = f.s.nonce := Decidable.byContradiction (fun h => hm (.inr (.inl h)))
        show (n.toNat : Int) = (f.s.nonce.toNat : Int)
        rw [e]
      by_cases hl : c.win < now - t
      · rw [if_pos hl]
        exact uhear_late up wb c A m ck i inc count ws w f now hc hwl hwt hw hp n t hq _ rfl hm2 hl
      · rw [if_neg hl]
        exact uhear_yes up wb c A m ck i inc count ws w f now hc hwl hwt hw hp n t hq _ rfl hm2 hl
  · rw [if_neg hp]
    exact uhear_bad up wb c A m ck i inc count ws w f now hc hwl hwt hw hp
end
end
section
set_option linter.unusedVariables false
open Go
/-- Some of what is known, in an order of one's own. -/
inductive Sel : Hp → Hp → Prop
  | sub {hs T : Hp} (h : List.Sublist T hs) : Sel hs T
  | comm {hs A B : Hp} (h : Sel hs (B ++ A)) : Sel hs (A ++ B)
  | cons {e : Ent} {hs r T : Hp} (h : Take e hs r) (h2 : Sel r T) : Sel hs (e :: T)
theorem Sel.rest {hs T : Hp} (h : Sel hs T) : ∃ R, hs.Perm (T ++ R) := by
  induction h with
  | sub h => exact ⟨_, (List.Sublist.exists_perm_append h).choose_spec⟩
  | comm _ ih =>
    obtain ⟨R, hR⟩ := ih
    exact ⟨R, hR.trans (List.Perm.append_right R List.perm_append_comm)⟩
  | cons h _ ih =>
    obtain ⟨R, hR⟩ := ih
    exact ⟨R, h.perm.trans (hR.cons _)⟩
theorem Sel.st {G : Cx} {hs T : Hp} {w : World} (h : Sel hs T) (hw : St G hs w) : St G T w := by
  obtain ⟨R, hR⟩ := h.rest
  exact (hw.perm hR).sub (List.sublist_append_left T R)
end
section
set_option linter.unusedVariables false
set_option linter.unusedSimpArgs false
set_option maxRecDepth 100000
set_option maxHeartbeats 8000000
open Go
/-- A reply: what it is. -/
def replyX (m : List B8) (i : Int) (s : FrS) (now e st ix : Int) (key : List B8) : List B8 × Int :=
  if s.kind = 2 ∧ s.to = i ∧ s.ok then sealX (pongS i s.frm s.nonce now e st ix key) (pairOf m i s.frm).1 else ([], 1)
/-- A question: its bytes, and what waits behind it. -/
def askX (c : Cfg) (m : List B8) (i inc : Int) (count : BitVec 64) (wait : List (BitVec 64 × Int)) (to now : Int) : (List B8 × Int) × BitVec 64 × List (BitVec 64 × Int) :=
  if mayAsk c i to now count then (sealX (pingS i to (firstOf inc + (count + 1#64))) (pairOf m i to).1, count + 1#64, wait.set to.toNat (firstOf inc + (count + 1#64), now))
  else (([], if otherP c i to ∧ 0 ≤ now ∧ now ≤ 1099511627776 then 9 else 1), count, wait)
theorem sealX_le (s : FrS) (key : List B8) : (sealX s key).1.length ≤ 100 := by
  unfold sealX putX
  split
  · split
    · rename_i h; exact frameBytes_le2 h
    · exact Nat.zero_le _
  · exact Nat.zero_le _
theorem replyX_le (m : List B8) (i : Int) (s : FrS) (now e st ix : Int) (key : List B8) : (replyX m i s now e st ix key).1.length ≤ 100 := by
  unfold replyX
  split
  · exact sealX_le _ _
  · exact Nat.zero_le _
/-- What waits is in order: of eight, in time, none of one's own. -/
structure Waits (i : Int) (wait : List (BitVec 64 × Int)) : Prop where
  len : wait.length = 8
  time : InTime wait
  own : wait.getD i.toNat (0, 0) = (0, 0)
theorem Waits.none (i : Int) : Waits i wait0 := by
  refine ⟨rfl, InTime.none, ?_⟩
  rw [List.getD_eq_getElem?_getD]
  rcases Nat.lt_or_ge i.toNat 8 with h | h
  · rcases (by omega : i.toNat = 0 ∨ i.toNat = 1 ∨ i.toNat = 2 ∨ i.toNat = 3 ∨ i.toNat = 4 ∨ i.toNat = 5 ∨ i.toNat = 6 ∨ i.toNat = 7) with h | h | h | h | h | h | h | h <;> rw [h] <;> rfl
  · rw [List.getElem?_eq_none (by exact h)]; rfl
theorem getD_set_ne {l : List (BitVec 64 × Int)} {a b : Nat} {x : BitVec 64 × Int} (h : a ≠ b) : (l.set a x).getD b (0, 0) = l.getD b (0, 0) := by
  rw [List.getD_eq_getElem?_getD, List.getD_eq_getElem?_getD, List.getElem?_set_ne h]
theorem getD_set_zero {l : List (BitVec 64 × Int)} {a b : Nat} (h : l.getD b (0, 0) = (0, 0)) : (l.set a (0, 0)).getD b (0, 0) = (0, 0) := by
  by_cases hab : a = b
  · subst hab
    rw [List.getD_eq_getElem?_getD, List.getElem?_set]
    simp only [if_true]
    split <;> rfl
  · rw [getD_set_ne hab, h]
theorem Waits.ask {c : Cfg} {m : List B8} {i inc : Int} {count : BitVec 64} {wait : List (BitVec 64 × Int)} {to now : Int} (h : Waits i wait) (hi : 0 ≤ i) : Waits i (askX c m i inc count wait to now).2.2 ∧ (askX c m i inc count wait to now).1.1.length ≤ 100 := by
  unfold askX
  by_cases hm : mayAsk c i to now count
  · rw [if_pos hm]
    obtain ⟨⟨⟨h1, h2⟩, h3, h4⟩, h5⟩ := hm
    exact ⟨⟨by rw [List.length_set]; exact h.len, h.time.set _ ⟨h3, h4⟩, by rw [getD_set_ne (by omega)]; exact h.own⟩, sealX_le _ _⟩
  · rw [if_neg hm]
    exact ⟨h, Nat.zero_le _⟩
theorem Waits.hear {c : Cfg} {i : Int} {wait : List (BitVec 64 × Int)} {s : FrS} {now : Int} (h : Waits i wait) : Waits i (hearX c i wait s now).2.2.2 := by
  have hz : ∀ a, Waits i (wait.set a (0, 0)) := fun a => ⟨by rw [List.length_set]; exact h.len, h.time.set _ ⟨by decide, by decide⟩, getD_set_zero h.own⟩
  unfold hearX
  split
  · split
    · exact h
    · split
      · exact hz _
      · exact hz _
  · exact h
attribute [local irreducible] bitsOf shlOf shrOf pack numBits bytesBits coreBits crcSum tagOf macKey FrS.ok frameBytes sealX getX holdsX mostX firstOf
section
variable {G : Cx} {hs : Hp} {K : Value → Hp → Prop} {c : Cfg} {m : List B8} {i inc : Int} {count : BitVec 64} {wait : List (BitVec 64 × Int)}
section
variable {ep mb cm : Nat} {r : List Value} {fr : Nat × Nat} {r1 : Hp}
theorem CallVC.askXW {to now : Int} {x : (List B8 × Int) × BitVec 64 × List (BitVec 64 × Int)} (hP : G.P = Tryz.prog) (h1 : Take (eE ep c ⟨some ⟨mb, 0, none⟩, m, cm⟩ i (firstOf inc) count wait) hs r1) (hm : (⟨mb, m.map b8 ++ r, 5, fr⟩ : Ent) ∈ r1) (hcm : m.length ≤ cm) (hcn : c.n ≤ 8) (hw8 : wait.length = 8)
    (hx : askX c m i inc count wait to now = x)
    (hk : ∀ A' c' E', Own A' x.1.1 c' E' → K (.tuple #[.slice A' x.1.1.length c', .int .i64 x.1.2]) (eE ep c ⟨some ⟨mb, 0, none⟩, m, cm⟩ i (firstOf inc) x.2.1 x.2.2 :: (r1 ++ E'))) : CallVC G hs 23 [.pointer (some ⟨ep, 0, none⟩), .int .i64 to, .int .i64 now] K := by
  by_cases hmay : mayAsk c i to now count
  · have e : x = (sealX (pingS i to (firstOf inc + (count + 1#64))) (pairOf m i to).1, count + 1#64, wait.set to.toNat (firstOf inc + (count + 1#64), now)) := by rw [← hx]; unfold askX; rw [if_pos hmay]
    subst e
    exact CallVC.askW hP h1 hm hcm hcn hw8 hmay rfl hk
  · have e : x = (([], if otherP c i to ∧ 0 ≤ now ∧ now ≤ 1099511627776 then 9 else 1), count, wait) := by rw [← hx]; unfold askX; rw [if_neg hmay]
    subst e
    refine ⟨K, fun w hw => ?_, fun _ _ h => h⟩
    have hc := (eask_no ep c ⟨mb, 0, none⟩ m cm i (firstOf inc) count wait w to now hmay (at_in (h1.perm.mem_iff.2 (List.Mem.head _)) hw)).calls
    rw [hP]
    refine hc.mono ?_
    rintro e' w' ⟨v, hs2, rfl, ⟨A, c', E, rfl, hl, hO, hsub⟩, hst⟩
    exact ⟨_, _, rfl, hk A c' E hO, ((hw.trans (hP ▸ hst)).sub (hsub.append_right hs)).perm (List.perm_append_comm.trans (h1.perm.append_right E))⟩
theorem ereply_r (ep : Nat) (c : Cfg) (b0 : Addr) (m : List B8) (cm : Nat) (i : Int) (first count : BitVec 64) (wait : List (BitVec 64 × Int)) (w : World) (f : Fr) (now e st ix : Int) (A : Option Addr) (key : List B8) (ck : Nat) (hcm : m.length ≤ cm) (hA : At w A (key.map b8)) (hP : At w (some ⟨ep, 0, none⟩) (eCs c ⟨some b0, m, cm⟩ i first count wait)) (hM : At w (some b0) (m.map b8)) :
    Ret Tryz.prog 25 [.pointer (some ⟨ep, 0, none⟩), f.v, .int .i64 now, .int .i64 e, .int .i64 st, .int .i64 ix, .slice A key.length ck] w (GivesX (replyX m i f.s now e st ix key).1 (replyX m i f.s now e st ix key).2) := by
  by_cases h : f.s.kind = 2 ∧ f.s.to = i ∧ f.s.ok
  · have e' : replyX m i f.s now e st ix key = sealX (pongR i f now e st ix ⟨A, key, ck⟩).s (pairOf m i f.frm).1 := by unfold replyX; rw [if_pos h]; rfl
    rw [e']
    exact ereply_yes ep c b0 m cm i first count wait w f now e st ix A key ck ⟨h.1, h.2.1, (ok_s f).1 h.2.2⟩ hcm hA hP hM
  · have e' : replyX m i f.s now e st ix key = ([], 1) := by unfold replyX; rw [if_neg h]
    rw [e']
    exact ereply_no ep c b0 m cm i first count wait w f now e st ix A key.length ck (fun h' => h ⟨h'.1, h'.2.1, (ok_s f).2 h'.2.2⟩) hP
end
section
variable {up wb ck : Nat} {A : Option Addr} {r1 r2 : Hp}
theorem CallVC.newU {f : Nat} {args : List Value} {M : Sl} (hc : ∀ w, St G hs w → Ret G.P f args w (NewU c M i inc))
    (hk : ∀ up wb, K (.tuple #[.pointer (some ⟨up, 0, none⟩), .int .i64 0]) (uE up c M i inc 0#64 wb :: uW wb (wait0.take c.n.toNat) :: hs)) : CallVC G hs f args K := by
  refine CallVC.ofW hc ?_
  rintro v hs2 ⟨up, wb, rfl, hsub⟩
  exact ⟨_, hsub, hk up wb⟩
theorem two_perm (h1 : Take (uE up c ⟨A, m, ck⟩ i inc count wb) hs r1) (h2 : Take (uW wb wait) r1 r2) : hs.Perm ([uE up c ⟨A, m, ck⟩ i inc count wb, uW wb wait] ++ r2) := h1.perm.trans (h2.perm.cons _)
theorem CallVC.uaskXW {to now : Int} {x : (List B8 × Int) × BitVec 64 × List (BitVec 64 × Int)} (hP : G.P = Tryz.prog) (h1 : Take (uE up c ⟨A, m, ck⟩ i inc count wb) hs r1) (h2 : Take (uW wb (wait.take c.n.toNat)) r1 r2) (hM : At G.w0 A (m.map b8)) (hm0 : m.length = 16) (hfp : G.fp = []) (hck : m.length ≤ ck) (hcn : c.n ≤ 8) (hin : 0 ≤ inc ∧ inc ≤ 65535) (hw8 : wait.length = 8)
    (hx : askX c m i inc count wait to now = x)
    (hk : ∀ A' c' E', Own A' x.1.1 c' E' → K (.tuple #[.slice A' x.1.1.length c', .int .i64 x.1.2]) (uE up c ⟨A, m, ck⟩ i inc x.2.1 wb :: uW wb (x.2.2.take c.n.toNat) :: (r2 ++ E'))) : CallVC G hs 35 [.pointer (some ⟨up, 0, none⟩), .int .i64 to, .int .i64 now] K := by
  have hpp := two_perm h1 h2
  by_cases hmay : mayAsk c i to now count
  · have e : x = (sealX (pingS i to (firstOf inc + (count + 1#64))) (pairOf m i to).1, count + 1#64, wait.set to.toNat (firstOf inc + (count + 1#64), now)) := by rw [← hx]; unfold askX; rw [if_pos hmay]
    subst e
    refine CallVC.mutP [uE up c ⟨A, m, ck⟩ i inc count wb, uW wb (wait.take c.n.toNat)] r2 hpp (fun w2 h2' h3 => hP ▸ uask_m up wb c A m ck i inc count (wait.take c.n.toNat) w2 to now hck hcn hin (by rw [List.length_take]; omega) hmay (hM.here h2' (by simp [hfp])) (fun a ha => (ha ▸ hM : At G.w0 (some a) _).news (by intro h; rw [List.map_eq_nil_iff] at h; rw [h] at hm0; cases hm0) (by simp [hfp]) h2' hpp) (hP ▸ h3)) ?_
    rintro v H ⟨A', c', E', rfl, hO, rfl⟩
    refine ⟨_, List.Perm.cons _ (List.Perm.cons _ List.perm_append_comm), ?_⟩
    have := hk A' c' E' hO
    rw [take_set] at this
    exact this
  · have e : x = (([], if otherP c i to ∧ 0 ≤ now ∧ now ≤ 1099511627776 then 9 else 1), count, wait) := by rw [← hx]; unfold askX; rw [if_neg hmay]
    subst e
    refine ⟨K, fun w hw => ?_, fun _ _ h => h⟩
    have hc := (uask_no up wb c A m ck i inc count w to now hmay (at_in (h1.perm.mem_iff.2 (List.Mem.head _)) hw)).calls
    rw [hP]
    refine hc.mono ?_
    rintro e' w' ⟨v, hs2, rfl, ⟨rfl, rfl⟩, hst⟩
    exact ⟨_, _, rfl, hk none 0 [] Own.none, ((hw.trans (hP ▸ hst)).sub ((List.Sublist.refl _).append_right hs)).perm (by rw [List.append_nil]; exact hpp)⟩
theorem CallVC.uhearXW {f : Fr} {now : Int} {x : Ans × List B8 × Int × List (BitVec 64 × Int)} (hP : G.P = Tryz.prog) (h1 : Take (uE up c ⟨A, m, ck⟩ i inc count wb) hs r1) (h2 : Take (uW wb (wait.take c.n.toNat)) r1 r2) (hc : c.ok) (hW : Waits i wait)
    (hx : hearX c i wait f.s now = x)
    (hk : ∀ S : Sl, S.l = x.2.1 → (S = f.key ∨ S = slNil) → K (.tuple #[x.1.v S.v, .int .i64 x.2.2.1]) (uE up c ⟨A, m, ck⟩ i inc count wb :: uW wb (x.2.2.2.take c.n.toNat) :: r2)) : CallVC G hs 38 [.pointer (some ⟨up, 0, none⟩), f.v, .int .i64 now] K := by
  have hpp := two_perm h1 h2
  have hn8 : 1 ≤ c.n ∧ c.n ≤ 8 := by unfold Cfg.ok at hc; exact ⟨hc.1, hc.2.1⟩
  have hl := hW.len
  have ht : hearX c i (wait.take c.n.toNat) f.s now = (x.1, x.2.1, x.2.2.1, x.2.2.2.take c.n.toNat) := by
    rw [hearX_take (fun h => ((ok_s f).1 h).1.1.1), hx]
  refine CallVC.mutP [uE up c ⟨A, m, ck⟩ i inc count wb, uW wb (wait.take c.n.toNat)] r2 hpp (fun w2 h2' h3 => hP ▸ uhear_m up wb c A m ck i inc count (wait.take c.n.toNat) w2 f now hc (by rw [List.length_take]; omega) (fun p hp => hW.time p (List.mem_of_mem_take hp)) (hP ▸ h3)) ?_
  rw [ht]
  rintro v H ⟨S, hS, hS2, rfl, rfl⟩
  exact ⟨_, List.Perm.refl _, hk S hS hS2⟩
theorem CallVC.uforgetXW {M : Sl} {ws : List (BitVec 64 × Int)} (hP : G.P = Tryz.prog) (h1 : Take (uE up c M i inc count wb) hs r1) (h2 : Take (uW wb ws) r1 r2) (hn : 1 ≤ c.n ∧ c.n ≤ 8)
    (hk : ∀ v wb', K v (uE up c M i inc count wb' :: uW wb' (wait0.take c.n.toNat) :: r2)) : CallVC G hs 40 [.pointer (some ⟨up, 0, none⟩)] K := by
  refine CallVC.mutP [uE up c M i inc count wb, uW wb ws] r2 (h1.perm.trans (h2.perm.cons _)) (fun w2 h2' h3 => hP ▸ uforget_m up wb c M i inc count ws hn w2 (hP ▸ h3)) ?_
  rintro v H ⟨wb', hp⟩
  exact ⟨_, hp.append_right r2, hk v wb'⟩
theorem ureply_r (up wb : Nat) (c : Cfg) (A : Option Addr) (m : List B8) (ck : Nat) (i inc : Int) (count : BitVec 64) (w : World) (f : Fr) (now e st ix : Int) (B : Option Addr) (key : List B8) (cb : Nat) (hck : m.length ≤ ck) (hB : At w B (key.map b8)) (hP : At w (some ⟨up, 0, none⟩) (uCs c ⟨A, m, ck⟩ i inc count wb)) (hM : At w A (m.map b8)) :
    Ret Tryz.prog 37 [.pointer (some ⟨up, 0, none⟩), f.v, .int .i64 now, .int .i64 e, .int .i64 st, .int .i64 ix, .slice B key.length cb] w (GivesX (replyX m i f.s now e st ix key).1 (replyX m i f.s now e st ix key).2) := by
  by_cases h : f.s.kind = 2 ∧ f.s.to = i ∧ f.s.ok
  · have e' : replyX m i f.s now e st ix key = sealX (pongR i f now e st ix ⟨B, key, cb⟩).s (pairOf m i f.frm).1 := by unfold replyX; rw [if_pos h]; rfl
    rw [e']
    exact ureply_yes up wb c A m ck i inc count w f now e st ix B key cb ⟨h.1, h.2.1, (ok_s f).1 h.2.2⟩ hck hB hP hM
  · have e' : replyX m i f.s now e st ix key = ([], 1) := by unfold replyX; rw [if_neg h]
    rw [e']
    exact ureply_no up wb c A m ck i inc count w f now e st ix B key.length cb (fun h' => h ⟨h'.1, h'.2.1, (ok_s f).2 h'.2.2⟩) hP
end
end
theorem slAt {f : Fr} {S : Sl} {w : World} (h : S = f.key ∨ S = slNil) (hF : FAt w f) : At w S.a (S.l.map b8) := by
  rcases h with rfl | rfl
  · exact hF.key
  · exact At.nil
theorem answers_v (a : Ans) (A : Option Addr) (l : List B8) (ca : Nat) (S : Sl) (hS : S.l = l) (w : World) (h1 : At w A (l.map b8)) (h2 : At w S.a (S.l.map b8)) : Val Tryz.prog 39 [a.v (.slice A l.length ca), a.v S.v] w (.bool true) := by
  obtain ⟨Sa, Sl, Sc⟩ := S
  subst hS
  dsimp only at h1 h2
  refine val_vc tab_ok Tryz.func39 rfl rfl ?_
  repeat' ((try (conv => whnf)); (first | (refine Pick.kp ?_; first | refine Pick.mk _ (conv_arg h1 (by simp) rfl) ?_ | refine Pick.mk _ (conv_arg h2 (by simp) rfl) ?_) | (refine Split.mk (fun hsplit => ?_) (fun hsplit => absurd rfl hsplit)) | refine Need.au ?_ | (refine Split.mk (fun hsplit => ?_) (fun hsplit => ?_) <;> (try simp only [List.cons.injEq, and_true, true_and, not_true_eq_false, not_false_eq_true] at hsplit) <;> try (exfalso; omega)) | refine Pick.au ?_ | refine store_au ?_ | refine Any.mk (fun _ => ?_) | refine Both.mk ?_ ?_)); all_goals (try (conv => whnf))
  all_goals first | exact Done.mk rfl | exact absurd rfl (by assumption)
end
end Go.Proofs.YtnlheljpagpiiaaGreat
