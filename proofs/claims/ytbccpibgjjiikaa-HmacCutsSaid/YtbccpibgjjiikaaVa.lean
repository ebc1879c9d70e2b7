/-
  Structs of numbers held against each other; the reading operations with these.
-/
import Derived.Test.YtbccpibgjjiikaaVv
import Derived.Laws.StructEq
set_option linter.unusedVariables false
set_option linter.unusedSimpArgs false
namespace Go.Proofs.Ytbccpibgjjiikaa
variable {G : Cx} {hs : Hp} {T : Tab} {env : Env} {ρ : Operand → Value} {K : Value → Prop}

def pairK : List Value → List Value → (List Int → List Int → Prop) → Prop
  | [], [], K => K [] []
  | .int k a :: r, .int k' b :: r', K => match kindEq k k' with
    | true => pairK r r' fun l l' => K (a :: l) (b :: l')
    | false => False
  | _, _, _ => False
def lenB : List Value → Nat → Bool
  | [], 0 => true
  | _ :: r, n + 1 => lenB r n
  | _, _ => false
theorem lenB_out : ∀ (l : List Value) (n : Nat), lenB l n = true → l.length = n
  | [], 0, _ => rfl
  | [], _ + 1, h => by cases h
  | _ :: _, 0, h => by cases h
  | _ :: r, n + 1, h => by simp [lenB_out r n h]
def aggK (T : Tab) (t : Nat) (op : BinOp) (xs ys : Array Value) (K : Value → Prop) : Prop := match eqLook T.eqs t with
  | some n => match lenB xs.toList n with
    | true => pairK xs.toList ys.toList fun l l' => match op with
      | .eql => Split (l = l') (yesK K)
      | .neq => Split (l = l') (notK K)
      | _ => False
    | false => False
  | none => False
def xvc (G : Cx) (T : Tab) (hs : Hp) (env : Env) (op : Op) (K : Value → Prop) : Prop := match op with
  | .binOp bop t x y yt => evK env x fun
    | .agg xs => evK env y fun
      | .agg ys => aggK T t bop xs ys K
      | _ => False
    | _ => pvc G T hs env (.binOp bop t x y yt) K
  | op => pvc G T hs env op K

theorem pairK_out : ∀ (xs ys : List Value) (Kl : List Int → List Int → Prop), pairK xs ys Kl → ∃ l l', Kl l l' ∧ l.length = xs.length ∧ l'.length = ys.length ∧ xs.length = ys.length ∧
    ∀ i, (h : i < xs.length) → ∃ k a b, xs[i]? = some (.int k a) ∧ ys[i]? = some (.int k b) ∧ l[i]? = some a ∧ l'[i]? = some b
  | [], [], Kl, h => ⟨[], [], h, rfl, rfl, rfl, fun i hi => by simp at hi⟩
  | x :: r, y :: r', Kl, h => by
    cases x <;> cases y <;> try exact h.elim
    rename_i k a k' b
    unfold pairK at h
    split at h
    · rename_i hk
      obtain rfl := kindEq_out hk
      obtain ⟨l, l', h1, h2, h3, h4, h5⟩ := pairK_out r r' _ h
      refine ⟨a :: l, b :: l', h1, by simp [h2], by simp [h3], by simp [h4], fun i hi => ?_⟩
      cases i with
      | zero => exact ⟨k, a, b, rfl, rfl, rfl, rfl⟩
      | succ i => simpa using h5 i (by simpa using hi)
    · exact h.elim
  | [], y :: r', Kl, h => h.elim
  | x :: r, [], Kl, h => by cases x <;> exact h.elim

theorem eqFields_run {P : Program} {xs ys : Array Value} {l l' : List Int} (hx : ∀ i, i < xs.size → ∃ k a b, xs[i]? = some (.int k a) ∧ ys[i]? = some (.int k b) ∧ l[i]? = some a ∧ l'[i]? = some b) (d : Nat) (w : World) :
    ∀ (fs : List Field) (i : Nat), fieldsB P fs i = true → i + fs.length = xs.size → (Op.eqFields (d + 1) xs ys fs).run P w = .ok (decide (l.drop i = l'.drop i ∨ xs.size ≤ i)) w ∨ l.length ≠ xs.size ∨ l'.length ≠ xs.size
  | [], i, _, hi => by
    left
    simp only [Op.eqFields]
    rw [decide_eq_true (.inr (by simp at hi; omega))]
    rfl
  | f :: r, i, hf, hi => by
    by_cases hl : l.length = xs.size
    case neg => exact .inr (.inl hl)
    by_cases hl' : l'.length = xs.size
    case neg => exact .inr (.inr hl')
    left
    simp only [List.length_cons] at hi
    simp only [fieldsB, Bool.and_eq_true, bne_iff_ne, beq_iff_eq] at hf
    obtain ⟨⟨⟨h1, h2⟩, h3⟩, h4⟩ := hf
    obtain ⟨k, a, b, e1, e2, e3, e4⟩ := hx i (by omega)
    obtain ⟨kk, hkk⟩ : ∃ kk, P.underlying f.type = some (.int kk) := by
      split at h3
      · exact ⟨_, by assumption⟩
      · cases h3
    have hpart : ∀ (zs : Array Value) (v : Value), zs[i]? = some v → (part f.type zs f.offset).run P w = .ok v w := by
      intro zs v hz
      unfold part
      rw [h2]
      simp only [isAgg, underlying, program, bind, Sem.bind, Sem.run, hkk, hz]
      rfl
    simp only [Op.eqFields, if_pos h1, Sem.run_bind, hpart xs _ e1, hpart ys _ e2, Result.andThen_ok, run_equalIn_int w d f.type k kk a b hkk]
    have hdl : l.drop i = a :: l.drop (i + 1) := by
      obtain ⟨hlt, hh⟩ := List.getElem?_eq_some_iff.1 e3
      rw [List.drop_eq_getElem_cons hlt, hh]
    have hdl' : l'.drop i = b :: l'.drop (i + 1) := by
      obtain ⟨hlt, hh⟩ := List.getElem?_eq_some_iff.1 e4
      rw [List.drop_eq_getElem_cons hlt, hh]
    by_cases hab : a = b
    · subst hab
      have ih := (eqFields_run hx d w r (i + 1) h4 (by omega)).resolve_right (fun h => h.elim (fun h => h hl) (fun h => h hl'))
      simp only [beq_self_eq_true, Bool.not_true, Bool.false_eq_true, if_false]
      rw [ih, hdl, hdl']
      have : (decide (List.drop (i + 1) l = List.drop (i + 1) l' ∨ xs.size ≤ i + 1)) = decide (a :: List.drop (i + 1) l = a :: List.drop (i + 1) l' ∨ xs.size ≤ i) := by
        rw [decide_eq_decide]
        constructor
        · rintro (h | h)
          · exact .inl (by rw [h])
          · left
            rw [List.drop_eq_nil_of_le (by omega), List.drop_eq_nil_of_le (by omega)]
        · rintro (h | h)
          · exact .inl (List.cons.inj h).2
          · omega
      rw [this]
    · have : (a == b) = false := by simpa using hab
      simp only [this, Bool.not_false, if_true, Sem.run_pure]
      rw [decide_eq_false]
      rintro (h | h)
      · rw [hdl, hdl'] at h; exact hab (List.cons.inj h).1
      · omega

theorem agg_run {P : Program} {t : Nat} {op : BinOp} {xs ys : Array Value} {x y : Operand} (hE : ∀ t n, eqLook T.eqs t = some n → EqOK P t n) (h : aggK T t op xs ys K) :
    ∃ v, (∀ w, (do eqGuard op t x y (.agg xs) (.agg ys); binOp op t (.agg xs) (.agg ys) : Sem Value).run P w = .ok v w) ∧ K v := by
  unfold aggK at h
  split at h
  · rename_i n' hl
    split at h
    · rename_i hlen
      have hlen' := lenB_out _ _ hlen
      have E := hE t n' hl
      obtain ⟨l, l', h1, h2, h3, h4, h5⟩ := pairK_out _ _ _ h
      have hx : ∀ i, i < xs.size → ∃ k a b, xs[i]? = some (.int k a) ∧ ys[i]? = some (.int k b) ∧ l[i]? = some a ∧ l'[i]? = some b := by
        intro i hi
        have := h5 i (by simpa using hi)
        simpa using this
      have hrun : ∀ w, (Op.equalIn 10000 t (.agg xs) (.agg ys)).run P w = .ok (decide (l = l')) w := by
        intro w
        rw [run_equalIn_struct w 9999 t xs ys E.desc E.stood]
        have := (eqFields_run (P := P) (l := l) (l' := l') hx 9998 w (P.fieldsOf t).toList 0 E.fields (by rw [E.len, Nat.zero_add, ← hlen']; simp)).resolve_right (by
          rintro (h | h)
          · exact h (by rw [h2]; simp)
          · exact h (by rw [h3, ← h4]; simp))
        rw [this]
        simp only [List.drop_zero]
        congr 1
        rw [decide_eq_decide]
        constructor
        · rintro (h | h)
          · exact h
          · have hz : xs.toList.length = 0 := by simpa using h
            have e1 : l = [] := List.eq_nil_of_length_eq_zero (by rw [h2, hz])
            have e2 : l' = [] := List.eq_nil_of_length_eq_zero (by rw [h3, ← h4, hz])
            rw [e1, e2]
        · exact .inl
      split at h1
      · refine ⟨.bool (decide (l = l')), fun w => ?_, yes_bool (h1.dec)⟩
        rw [Sem.run_bind, run_eqGuard_agg w _ t x y xs ys E.guard, Result.andThen_ok, run_eql_struct, hrun]
        rfl
      · refine ⟨.bool (!decide (l = l')), fun w => ?_, not_bool (h1.dec)⟩
        rw [Sem.run_bind, run_eqGuard_agg w _ t x y xs ys E.guard, Result.andThen_ok, run_neq_struct, hrun]
        rfl
      · exact h1.elim
    · exact h.elim
  · exact h.elim

end Go.Proofs.Ytbccpibgjjiikaa
