/-
  append's everyday forms; copy; the bytes of a text; calls.
-/
import Derived.Test.YtbccpibgjjiikaaVy
set_option linter.unusedVariables false
set_option linter.unusedSimpArgs false
namespace Go.Proofs.Ytbccpibgjjiikaa
variable {G : Cx} {hs : Hp} {T : Tab} {env : Env} {ρ : Operand → Value}

theorem layL_len : ∀ (vs cs : List Value) (n : Nat), (layL vs cs n).length = cs.length
  | [], _, _ => rfl
  | v :: vs, cs, n => by rw [layL, layL_len]; simp
theorem layL_eq : ∀ (vs cs : List Value) (n : Nat), n + vs.length ≤ cs.length → layL vs cs n = cs.take n ++ vs ++ cs.drop (n + vs.length)
  | [], cs, n, _ => by simp [layL]
  | v :: vs, cs, n, h => by
    simp only [List.length_cons] at h
    rw [layL, layL_eq vs _ _ (by simp; omega)]
    have h1 : (cs.set n v).take (n + 1) = cs.take n ++ [v] := by
      rw [List.take_succ_eq_append_getElem (by simp; omega)]
      simp [List.take_set_of_le]
    have h2 : (cs.set n v).drop (n + 1 + vs.length) = cs.drop (n + 1 + vs.length) := by
      rw [List.drop_set_of_lt (by omega)]
    rw [h1, h2]
    simp [Nat.add_assoc, Nat.add_comm 1]

/-- What a table must say of append's types. -/
structure ApT (T : Tab) (t tx e : Nat) (j : TyI) : Prop where
  dst : ∃ i, look T.ts t = some i ∧ i.d = .slice e
  elem : look T.ts e = some j
  src : ∃ l, look T.ts tx = some l ∧ (l.d = .str ∨ ∃ q, l.d = .slice q)
  b1 : 1 ≤ j.bytes

theorem AppendVC.nil {t tx e n : Nat} {j : TyI} {x : Value} {xs : List Value} {K : Value → Hp → Prop} (hT : TabOK G.P T) (ht : ApT T t tx e j) (hx : Holds G hs j.size x n xs)
    (room : (2 * n + 192) * j.bytes ≤ 281474976710656) (h0 : n = 0 → K (.slice none 0 0) hs)
    (h1 : 0 < n → ∀ b cap, n ≤ cap → K (.slice (some ⟨b, 0, none⟩) n cap) (⟨b, xs ++ zerosL (cap - n) j.zero, e, (0, 0)⟩ :: hs)) :
    AppendVC G hs t tx (.slice none 0 0) x K := by
  obtain ⟨i, hi, hd⟩ := ht.dst
  obtain ⟨l, hl, hld⟩ := ht.src
  refine AppendVC.any hT hi hd ht.elem hl hld (Holds.nil none 0) hx ht.b1 (fun _ => by simpa using room) (fun hlt b cap hc => ?_) (fun hle => ⟨fun _ => ?_, fun a ha => by cases ha⟩)
  · simp only [Nat.zero_add, List.nil_append] at hc ⊢
    exact h1 (by omega) b cap hc
  · have : n = 0 := by omega
    subst this
    exact h0 rfl

/-- Onto a row of the call's own, at its block's begin. -/
theorem AppendVC.own {t tx e n m b cap : Nat} {j : TyI} {x : Value} {cs ys : List Value} {fr : Nat × Nat} {rest : Hp} {K : Value → Hp → Prop} (hT : TabOK G.P T) (ht : ApT T t tx e j)
    (hm : Take ⟨b, cs, e, fr⟩ hs rest) (hfr : Soft fr cs.length) (hcs : cs.length = cap * j.size) (hn : n ≤ cap) (hx : Holds G hs j.size x m ys) (hone : ys.all one = true)
    (room : (2 * (n + m) + 192) * j.bytes ≤ 281474976710656)
    (h : ∀ b' cs' cap' fr', cs'.length = cap' * j.size → n + m ≤ cap' → Soft fr' cs'.length → cs'.take ((n + m) * j.size) = cs.take (n * j.size) ++ ys →
      K (.slice (some ⟨b', 0, none⟩) (n + m) cap') (⟨b', cs', e, fr'⟩ :: rest)) :
    AppendVC G hs t tx (.slice (some ⟨b, 0, none⟩) n cap) x K := by
  obtain ⟨i, hi, hd⟩ := ht.dst
  obtain ⟨l, hl, hld⟩ := ht.src
  have hmem : (⟨b, cs, e, fr⟩ : Ent) ∈ hs := hm.perm.mem_iff.2 (List.mem_cons_self ..)
  have hle : n * j.size ≤ cap * j.size := Nat.mul_le_mul_right _ hn
  have hold : Holds G hs j.size (.slice (some ⟨b, 0, none⟩) n cap) n (cs.take (n * j.size)) :=
    .row (by rw [List.length_take]; omega) (cellsAre_at hmem fun k v hv => by
      rw [Nat.zero_add]
      rw [List.getElem?_take] at hv
      split at hv
      · exact hv
      · cases hv)
  have hylen := hx.len
  have key : AppendVC G hs t tx (.slice (some ⟨b, 0, none⟩) n cap) x (fun v hs' => ∀ w, St G hs' w → ∃ hs'', St G hs'' w ∧ K v hs'') := by
    refine AppendVC.any hT hi hd ht.elem hl hld hold hx ht.b1 (fun _ => room) (fun hlt b' cap' hc => ?_) (fun hfit => ⟨(fun hb => by cases hb), fun a ha => ?_⟩)
    · intro w hw
      have hlen : (cs.take (n * j.size) ++ ys).length = (n + m) * j.size := by
        rw [List.length_append, List.length_take, hylen, Nat.min_eq_left (by omega), Nat.add_mul]
      refine ⟨⟨b', cs.take (n * j.size) ++ ys ++ zerosL (cap' - (n + m)) j.zero, e, (0, 0)⟩ :: rest, ?_, ?_⟩
      · have := hw.perm (hm.perm.cons _)
        exact this.sub ((List.sublist_cons_self ..).cons_cons _)
      · refine h b' _ cap' (0, 0) ?_ hc soft0 ?_
        · have hz := zeros_len (cap' - (n + m)) j.zero
          rw [(hT.ts e j ht.elem).zlen] at hz
          rw [List.length_append, hlen, hz, ← Nat.add_mul]
          congr 1; omega
        · rw [List.take_append_of_le_length (by omega), List.take_of_length_le (by omega)]
    · cases ha
      rw [StoreVC_eq]
      have hu : Upd ⟨b, cs, e, fr⟩ ⟨b, layL ys cs (n * j.size), e, fr⟩ (⟨b, cs, e, fr⟩ :: rest) (⟨b, layL ys cs (n * j.size), e, fr⟩ :: rest) := .head _
      have hroom : n * j.size + ys.length ≤ cs.length := by
        rw [hylen, hcs, ← Nat.add_mul]; exact Nat.mul_le_mul_right _ hfit
      have hst := storeCells_does (G := G) (fr := fr) (b := b) ys cs (n * j.size) 0 _ _ hone (by omega) (fun k _ hk => hfr.at_ (by omega)) (by rw [Nat.add_zero]; exact hu)
      rw [add_plain, Nat.zero_add]
      refine Does.perm hm.perm (hst.mono fun _ h' he => ?_)
      subst he
      intro w hw
      refine ⟨_, hw, h b _ cap fr ?_ hfit ?_ ?_⟩
      · rw [layL_len]; exact hcs
      · rw [layL_len]; exact hfr
      · rw [layL_eq _ _ _ hroom, List.append_assoc, Nat.add_mul, ← hylen]
        have hl1 : (cs.take (n * j.size)).length = n * j.size := by rw [List.length_take]; omega
        have e1 : (cs.take (n * j.size) ++ (ys ++ cs.drop (n * j.size + ys.length))).take (n * j.size + ys.length) = cs.take (n * j.size) ++ ys := by
          rw [← List.append_assoc, List.take_append_of_le_length (by rw [List.length_append, hl1]; omega), List.take_of_length_le (by rw [List.length_append, hl1]; omega)]
        exact e1
  rw [AppendVC_eq] at key ⊢
  intro ty
  exact (key ty).turn fun v hs' w hk hw => hk w hw

/-- Onto a row without room: what was there stays as it is. -/
theorem AppendVC.full {t tx e n m : Nat} {j : TyI} {A : Option Addr} {x : Value} {xs ys : List Value} {K : Value → Hp → Prop} (hT : TabOK G.P T) (ht : ApT T t tx e j)
    (hs1 : Holds G hs j.size (.slice A n n) n xs) (hx : Holds G hs j.size x m ys) (room : (2 * (n + m) + 192) * j.bytes ≤ 281474976710656)
    (h0 : m = 0 → K (.slice A n n) hs)
    (h1 : 0 < m → ∀ b cap, n + m ≤ cap → K (.slice (some ⟨b, 0, none⟩) (n + m) cap) (⟨b, xs ++ ys ++ zerosL (cap - (n + m)) j.zero, e, (0, 0)⟩ :: hs)) :
    AppendVC G hs t tx (.slice A n n) x K := by
  obtain ⟨i, hi, hd⟩ := ht.dst
  obtain ⟨l, hl, hld⟩ := ht.src
  have hylen := hx.len
  refine AppendVC.any hT hi hd ht.elem hl hld hs1 hx ht.b1 (fun _ => room) (fun hlt b cap hc => h1 (by omega) b cap hc) (fun hle => ?_)
  have hm0 : m = 0 := by omega
  subst hm0
  refine ⟨fun hb => by subst hb; exact h0 rfl, fun a ha => ?_⟩
  have : ys = [] := List.eq_nil_of_length_eq_zero (by rw [hylen, Nat.zero_mul])
  subst this
  rw [StoreVC_eq]
  exact Does.pure (h0 rfl)

end Go.Proofs.Ytbccpibgjjiikaa
