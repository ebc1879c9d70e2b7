/-
  The reading operations, all of them.
-/
import Derived.Test.YtbccpibgjjiikaaVq
set_option linter.unusedVariables false
set_option linter.unusedSimpArgs false
namespace Go.Proofs.Ytbccpibgjjiikaa
variable {G : Cx} {hs : Hp} {T : Tab} {env : Env} {ρ : Operand → Value} {K : Value → Prop}

theorem q_unK {op : UnOp} {v : Value} (h : unK op v K) : qvc G (Op.unary op v) hs K := by
  unfold unK at h
  split at h
  · exact h
  · exact h
  · exact q_wrap h
  · rename_i k n
    obtain ⟨r, rfl, h⟩ := h.out
    simp only [Op.unary, Op.intBits]
    cases hk : k.signed <;> simp only [hk] at h ⊢ <;> exact h
  · exact h.elim

theorem q_binop {t : Nat} {op : BinOp} {x y : Operand} {vx vy : Value} (hT : TabOK G.P T) (h : binopK T t op vx vy K) :
    qvc G (do eqGuard op t x y vx vy; binOp op t vx vy) hs K := by
  have hg : qvc G (eqGuard op t x y vx vy) hs (fun _ => True) := by
    unfold eqGuard
    have : vx ≠ .nilIface ∧ (∀ cs, vx ≠ .agg cs) := by
      constructor
      · rintro rfl
        simp only [binopK, eqK] at h
        split at h
        · split at h <;> first | exact h.elim | (rename_i e; cases e)
        · exact h.elim
      · rintro cs rfl
        simp only [binopK, eqK] at h
        split at h
        · split at h <;> first | exact h.elim | (rename_i e; cases e)
        · exact h.elim
    obtain ⟨h1, h2⟩ := this
    cases vx <;> first | exact absurd rfl h1 | exact absurd rfl (h2 _) | (cases op <;> exact trivial)
  have step : ∀ (m : Sem Unit) (f : Unit → Sem Value), qvc G m hs (fun _ => True) → qvc G (f ()) hs K → qvc G (m.bind f) hs K := by
    intro m f h1 h2
    refine qvc_bind _ _ _ _ ?_
    revert h1
    induction m with
    | pure a => intro _; exact h2
    | load m a k ih => rintro ⟨v, hv, h⟩; exact ⟨v, hv, ih v h⟩
    | shape r k ih => rintro ⟨e, he, hr, h⟩; exact ⟨e, he, hr, ih _ h⟩
    | program k ih => intro h; exact ih _ h
    | mark m k ih => intro h; exact ih h
    | _ => intro h; exact h.elim
  refine step _ _ hg ?_
  unfold binopK at h
  split at h
  · rename_i k m
    unfold binK at h
    cases vy <;> simp only at h <;> first | exact h.elim | skip
    split at h
    · exact q_shiftK (by assumption) h t
    · split at h
      · obtain rfl := kindEq_out (by assumption)
        exact q_intK (by assumption) h t
      · exact h.elim
  · unfold binK at h
    cases vy <;> simp only at h <;> first | exact h.elim | exact q_strK h t
  · exact q_eqK hT h

theorem q_optK {vs : Array Value} {i : Nat} (h : optK (vnth vs.toList i) K) : qvc G (Instr.extract (.tuple vs) i) hs K := by
  have e : vs[i]? = vnth vs.toList i := by rw [← vnth_eq, Array.getElem?_toList]
  simp only [Instr.extract, e]
  cases hv : vnth vs.toList i with
  | none => rw [hv] at h; exact h.elim
  | some v => rw [hv] at h; exact h

theorem q_loadK {t : Nat} {a : Addr} (hT : TabOK G.P T) (h : loadK G T hs t a K) : qvc G (Instr.loadAt t (.pointer (some a))) hs K := by
  unfold loadK at h
  cases hl : look T.ts t with
  | none => rw [hl] at h; exact h.elim
  | some i =>
    rw [hl] at h
    have hi := hT.ts t i hl
    dsimp only at h
    simp only [Instr.loadAt, Instr.sureAddr, loadVar]
    refine qvc_bind _ _ _ _ ?_
    refine (show qvc G (pure a : Sem Addr) hs _ from ?_)
    refine qvc_bind _ _ _ _ (q_isAgg hi ?_)
    cases ha : i.agg with
    | false =>
      rw [ha] at h
      obtain ⟨v, hv, hk⟩ := h.out
      exact q_load hv hk
    | true =>
      rw [ha] at h
      obtain ⟨cs, ⟨hn, hc⟩, hk⟩ := h.out
      refine qvc_bind _ _ _ _ (q_sizeOf hi ?_)
      exact qvc_bind _ _ _ _ (q_loadCells hn hc hk)

theorem nth_eq : ∀ (l : List (Nat × Nat)) (n : Nat), nth l n = l[n]?
  | [], _ => rfl
  | _ :: _, 0 => rfl
  | _ :: r, n + 1 => by simpa [nth] using nth_eq r n
theorem field_of {fs : List (Nat × Nat)} {a : Array Field} (ha : a.toList.map (fun f => (f.offset, f.type)) = fs) {f off ft : Nat} (hn : nth fs f = some (off, ft)) :
    ∃ x, a[f]? = some x ∧ x.offset = off ∧ x.type = ft := by
  rw [nth_eq, ← ha, List.getElem?_map] at hn
  obtain ⟨x, hx, he⟩ := Option.map_eq_some_iff.1 hn
  simp only [Prod.mk.injEq] at he
  exact ⟨x, by rw [← Array.getElem?_toList]; exact hx, he⟩
theorem q_fieldAddr {t f : Nat} {a : Addr} (hT : TabOK G.P T) (h : fieldK T t f fun off _ _ => K (.pointer (some (moved a off)))) :
    qvc G (Instr.fieldAt t (.pointer (some a)) f) hs K := by
  unfold fieldK at h
  split at h
  · rename_i i hl
    split at h
    · rename_i fs hd
      split at h
      · rename_i off ft hn
        split at h
        · rename_i j hj
          split at h
          · exact h.elim
          · rename_i n hsz
            have hdd := look_desc hT hl
            simp only [hd, descOk] at hdd
            obtain ⟨arr, hu, hm, _⟩ := hdd
            obtain ⟨x, hx, ho, ht⟩ := field_of hm hn
            simp only [Instr.fieldAt]
            refine qvc_bind _ _ _ _ (q_underlying hu ?_)
            simp only [hx]
            refine qvc_bind _ _ _ _ (show qvc G (pure a : Sem Addr) hs _ from ?_)
            refine qvc_bind _ _ _ _ ?_
            unfold fieldPlace
            have hj' := hT.ts ft j hj
            rw [← ht] at hj'
            refine qvc_bind _ _ _ _ (q_sizeOf hj' ?_)
            rw [if_neg (by omega), ho, moved_eq]
            exact h
        · exact h.elim
      · exact h.elim
    · exact h.elim
  · exact h.elim

theorem q_index {t : Nat} {v : Value} {k : IntKind} {n : Int} (hT : TabOK G.P T)
    (h : rowK T t v fun a len size => Need (0 ≤ n ∧ n < (len : Int)) (match a with | some a => K (.pointer (some (a.add (n.toNat * size)))) | none => False)) :
    qvc G (Instr.indexAt t v (.int k n)) hs K := by
  unfold rowK at h
  split at h
  · rename_i i hl
    have hdd := look_desc hT hl
    split at h
    · rename_i len e a hd
      simp only [hd, descOk] at hdd
      split at h
      · exact h.elim
      · exact h.elim
      · rename_i m
        split at h
        · rename_i j hj
          obtain ⟨hb, hk⟩ := Need.out h
          simp only [Instr.indexAt]
          refine qvc_bind _ _ _ _ (show qvc G (pure (k, n) : Sem _) hs _ from ?_)
          refine qvc_bind _ _ _ _ (q_underlying hdd ?_)
          refine qvc_bind _ _ _ _ (show qvc G (pure a : Sem Addr) hs _ from ?_)
          refine qvc_bind _ _ _ _ (show qvc G (pure (some a, m + 2, e) : Sem _) hs _ from ?_)
          refine qvc_bind _ _ _ _ (q_underlying hdd ?_)
          dsimp only
          rw [if_pos hb]
          refine qvc_bind _ _ _ _ (q_sizeOf (hT.ts e j hj) ?_)
          exact hk
        · exact h.elim
    · rename_i e a len c hd
      simp only [hd, descOk] at hdd
      split at h
      · rename_i j hj
        obtain ⟨hb, hk⟩ := Need.out h
        cases a with
        | none => exact hk.elim
        | some a =>
          simp only [Instr.indexAt]
          refine qvc_bind _ _ _ _ (show qvc G (pure (k, n) : Sem _) hs _ from ?_)
          refine qvc_bind _ _ _ _ (q_underlying hdd ?_)
          refine qvc_bind _ _ _ _ (show qvc G (pure (some a, len, e) : Sem _) hs _ from ?_)
          refine qvc_bind _ _ _ _ (q_underlying hdd ?_)
          dsimp only
          rw [if_pos hb]
          refine qvc_bind _ _ _ _ (q_sizeOf (hT.ts e j hj) ?_)
          exact hk
      · exact h.elim
    · exact h.elim
  · exact h.elim

end Go.Proofs.Ytbccpibgjjiikaa
