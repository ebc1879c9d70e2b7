/-
  The reading operations as one law. Structs of numbers held against each other; the reading operations with these. The operations that write, make memory or call: what is asked, and when it holds. Memory made: boxes, rows, what append makes. append, copy, the bytes of a text; calls. append's everyday forms; copy; the bytes of a text; calls. copy; the bytes of a text; calls; the operations that write, make memory or call, as one law.
-/
import Derived.Test.YtnlheljpagpiiaaGreatMa
import Derived.Laws.StructEq
namespace Go.Proofs.YtnlheljpagpiiaaGreat
section
set_option linter.unusedVariables false
set_option linter.unusedSimpArgs false
variable {G : Cx} {hs : Hp} {T : Tab} {env : Env} {ρ : Operand → Value} {K : Value → Prop}

theorem q_minK {x y : Value} (h : minK K x y) : qvc G (Builtin.min2 x y) hs K := by
  unfold minK at h
  split at h
  · rename_i k x k' y
    split at h
    · simp only [Builtin.min2]
      have e : (if y < x then y else x) = min x y := by omega
      rw [e]; exact h
    · exact h.elim
  · exact h.elim
theorem q_maxK {x y : Value} (h : maxK K x y) : qvc G (Builtin.max2 x y) hs K := by
  unfold maxK at h
  split at h
  · rename_i k x k' y
    split at h
    · simp only [Builtin.max2]
      have e : (if y > x then y else x) = max x y := by omega
      rw [e]; exact h
    · exact h.elim
  · exact h.elim
theorem q_lenK {t ty : Nat} {v : Value} {ts : List Nat} {vs : List Value} (hT : TabOK G.P T) (h : lenK T t v K) : qvc G (Builtin.len_ (t :: ts).toArray ty (v :: vs).toArray) hs K := by
  unfold lenK at h
  split at h
  · rename_i i hl
    have hd := look_desc hT hl
    unfold Builtin.len_
    split at h
    · rename_i s hdd
      simp only [hdd, descOk] at hd
      exact qvc_bind _ _ _ _ (q_underlying hd h)
    · rename_i e a n c hdd
      simp only [hdd, descOk] at hd
      exact qvc_bind _ _ _ _ (q_underlying hd h)
    · rename_i n e hdd
      simp only [hdd, descOk] at hd
      exact qvc_bind _ _ _ _ (q_underlying hd h)
    · exact h.elim
  · exact h.elim
theorem q_quiet {b : Builtin} {ts : List Nat} {ty : Nat} {cs : Array Bool} {vs : List Value} (hT : TabOK G.P T) (h : quietCallK T b ts vs K) :
    qvc G (builtin b ts.toArray ty cs vs.toArray) hs (Yes K) := by
  unfold quietCallK at h
  split at h
  · exact q_value (q_lenK hT h)
  · rename_i v w
    have e : Builtin.min_ ts.toArray ty #[v, w] = Builtin.min2 v w := by simp [Builtin.min_]
    simp only [builtin]
    rw [show [v, w].toArray = #[v, w] from rfl, e]
    exact q_value (q_minK h)
  · rename_i v w
    have e : Builtin.max_ ts.toArray ty #[v, w] = Builtin.max2 v w := by simp [Builtin.max_]
    simp only [builtin]
    rw [show [v, w].toArray = #[v, w] from rfl, e]
    exact q_value (q_maxK h)
  · exact h.elim

theorem evPartsK_out (hρ : Agrees ρ env) : ∀ (l : List (Nat × Operand)) (Kl : List (Nat × Value) → Prop), evPartsK env l Kl → Kl (l.map fun (i, x) => (i, ρ x))
  | [], _, h => h
  | (i, x) :: r, Kl, h => evPartsK_out hρ r _ (evK_out hρ h)

theorem evK_some {x : Operand} (h : evK env x K) : ∃ v, ev env x = some v ∧ K v := by
  unfold evK at h
  split at h
  · exact ⟨_, by assumption, h⟩
  · exact h.elim

/-- **An operation that only reads does what its condition says.** -/
theorem pvc_sound {dst : Option Tmp} {op : Op} {ty : Nat} {pos : String} {after : Array Edge} {guard : Option (Nat × Bool)} (hT : TabOK G.P T) (hρ : Agrees ρ env) (h : pvc G T hs env op K) :
    qvc G (execOp ρ ⟨dst, op, ty, pos, after, guard⟩) hs (Yes K) := by
  unfold pvc at h
  split at h
  · exact ⟨_, rfl, evK_out hρ h⟩
  · exact ⟨_, rfl, evK_out hρ h⟩
  · rename_i c a b
    obtain ⟨v, hv, h⟩ := evK_some h
    have hc := hρ _ _ hv
    split at h
    · refine qvc_bind (asBool (ρ c)) _ _ _ ?_
      rw [hc]
      exact ⟨_, rfl, evK_out hρ h⟩
    · refine qvc_bind (asBool (ρ c)) _ _ _ ?_
      rw [hc]
      exact ⟨_, rfl, evK_out hρ h⟩
    · exact h.elim
  · split at h
    · rename_i hy
      obtain rfl := isNilC_out hy
      have h2 := evK_out hρ h
      have e : ρ (.const .nilIface) = .nilIface := hρ _ _ rfl
      simp only [execOp, e]
      exact q_value (q_nil hT h2)
    · exact q_value (q_binop hT (evK_out hρ (evK_out hρ h)))
  · exact q_value (q_mkIface hT (evK_out hρ h))
  · exact q_value (q_unK (evK_out hρ h))
  · rename_i x
    obtain ⟨v, hv, h⟩ := evK_some h
    have hc := hρ _ _ hv
    split at h
    · simp only [execOp, hc]
      exact ⟨_, rfl, h⟩
    · exact h.elim
  · rename_i s x f
    obtain ⟨v, hv, h⟩ := evK_some h
    have hc := hρ _ _ hv
    split at h
    · simp only [execOp, hc]
      exact q_value (q_fieldAddr hT h)
    · exact h.elim
  · rename_i s x f
    obtain ⟨v, hv, h⟩ := evK_some h
    have hc := hρ _ _ hv
    split at h
    · simp only [execOp, hc]
      exact q_value (q_field hT h)
    · exact h.elim
  · rename_i t x i
    have h1 := evK_out hρ h
    obtain ⟨v, hv, h⟩ := evK_some h1
    have hc := hρ _ _ hv
    split at h
    · simp only [execOp, hc]
      exact q_value (q_index hT h)
    · exact h.elim
  · rename_i t x i
    obtain ⟨u, hu, h⟩ := evK_some h
    have hcu := hρ _ _ hu
    obtain ⟨v, hv, h⟩ := evK_some h
    have hc := hρ _ _ hv
    split at h
    · split at h
      · split at h
        · rename_i q hq
          split at h
          · rename_i hd
            obtain ⟨h1, h2⟩ := Need.out h
            simp only [execOp, hc, hcu]
            exact q_value (q_indexStr hT hq hd h1 h2)
          · exact h.elim
        · exact h.elim
      · split at h
        · rename_i q hq
          split at h
          · rename_i hd
            split at h
            · rename_i j hj
              split at h
              · rename_i ha
                obtain ⟨h1, h2⟩ := Need.out h
                simp only [execOp, hc, hcu]
                exact q_value (q_indexAgg hT hq hd hj ha h1 h2)
              · exact h.elim
            · exact h.elim
          · exact h.elim
        · exact h.elim
      · exact h.elim
    · exact h.elim
  · rename_i t x
    obtain ⟨v, hv, h⟩ := evK_some h
    have hc := hρ _ _ hv
    split at h
    · simp only [execOp, hc]
      exact q_value (q_loadK hT h)
    · exact h.elim
  · rename_i x i
    obtain ⟨v, hv, h⟩ := evK_some h
    have hc := hρ _ _ hv
    split at h
    · simp only [execOp, hc]
      exact q_value (q_optK h)
    · exact h.elim
  · exact q_value (q_convK hT (evK_out hρ h))
  · exact q_value (q_sliceK hT (evOptK_out hρ _ _ (evOptK_out hρ _ _ (evOptK_out hρ _ _ (evK_out hρ h)))))
  · rename_i t x
    obtain ⟨v, hv, h⟩ := evK_some h
    have hc := hρ _ _ hv
    split at h
    · split at h
      · rename_i i hi
        split at h
        · rename_i hd
          obtain ⟨h1, h2⟩ := Need.out h
          simp only [execOp, hc]
          exact q_value (q_arrayAt hT hi hd h1 h2)
        · exact h.elim
      · exact h.elim
    · exact h.elim
  · rename_i fn first captured
    have h1 := evAllK_out hρ _ _ (evAllK_out hρ _ _ h)
    simp only [execOp, Instr.makeFunc]
    refine q_value ?_
    have e1 : (List.map ρ first.toList).toArray = first.map ρ := by apply Array.ext'; simp
    have e2 : (List.map ρ captured.toList).toArray = captured.map ρ := by apply Array.ext'; simp
    rw [e1, e2] at h1
    exact h1
  · rename_i t parts
    have h1 := evPartsK_out hρ _ _ h
    simp only [execOp]
    refine q_value (q_build hT ?_)
    rw [Array.toList_map]
    exact h1
  · rename_i c
    split at h
    · rename_i b hb
      have h1 := evAllK_out hρ _ _ h
      have e1 : (List.map ρ c.args.toList).toArray = c.args.map ρ := by apply Array.ext'; simp
      have key : ∀ cs, qvc G (builtin b c.argTypes ty cs (c.args.map ρ)) hs (Yes K) := by
        intro cs
        have := q_quiet (G := G) (hs := hs) (ty := ty) (cs := cs) hT h1
        rw [e1, Array.toArray_toList] at this
        exact this
      simp only [execOp, resolve, hb, bind, Sem.bind, pure, invoke]
      exact key _
    · exact h.elim
  · exact h.elim
end
section
set_option linter.unusedVariables false
set_option linter.unusedSimpArgs false
variable {G : Cx} {hs : Hp} {T : Tab} {env : Env} {ρ : Operand → Value} {K : Value → Prop}

def pairK : List Value → List Value → (List Int → List Int → Prop) → Prop
  | [], [], K => K [] []
  | .int k a :: r, .int k' b :: r', K => match kindEq k k' with
    | true => pairK r r' fun l l' => K (a :: l) (b :: l')
    | false => False
  | _, _, _ => False
def lenB : List Value → Nat → Bool
  | [], 0 => true
  | _ :: r, n + 1 => lenB r n
  | _, _ => false
theorem lenB_out : ∀ (l : List Value) (n : Nat), lenB l n = true → l.length = n
  | [], 0, _ => rfl
  | [], _ + 1, h => by cases h
  | _ :: _, 0, h => by cases h
  | _ :: r, n + 1, h => by simp [lenB_out r n h]
def aggK (T : Tab) (t : Nat) (op : BinOp) (xs ys : Array Value) (K : Value → Prop) : Prop := match eqLook T.eqs t with
  | some n => match lenB xs.toList n with
    | true => pairK xs.toList ys.toList fun l l' => match op with
      | .eql => Split (l = l') (yesK K)
      | .neq => Split (l = l') (notK K)
      | _ => False
    | false => False
  | none => False
def xvc (G : Cx) (T : Tab) (hs : Hp) (env : Env) (op : Op) (K : Value → Prop) : Prop := match op with
  | .binOp bop t x y yt => evK env x fun
    | .agg xs => evK env y fun
      | .agg ys => aggK T t bop xs ys K
      | _ => False
    | _ => pvc G T hs env (.binOp bop t x y yt) K
  | op => pvc G T hs env op K

theorem pairK_out : ∀ (xs ys : List Value) (Kl : List Int → List Int → Prop), pairK xs ys Kl → ∃ l l', Kl l l' ∧ l.length = xs.length ∧ l'.length = ys.length ∧ xs.length = ys.length ∧
    ∀ i, (h : i < xs.length) → ∃ k a b, xs[i]? = some (.int k a) ∧ ys[i]? = some (.int k b) ∧ l[i]? = some a ∧ l'[i]? = some b
  | [], [], Kl, h => ⟨[], [], h, rfl, rfl, rfl, fun i hi => by simp at hi⟩
  | x :: r, y :: r', Kl, h => by
    cases x <;> cases y <;> try exact h.elim
    rename_i k a k' b
    unfold pairK at h
    split at h
    · rename_i hk
      obtain rfl := kindEq_out hk
      obtain ⟨l, l', h1, h2, h3, h4, h5⟩ := pairK_out r r' _ h
      refine ⟨a :: l, b :: l', h1, by simp [h2], by simp [h3], by simp [h4], fun i hi => ?_⟩
      cases i with
      | zero => exact ⟨k, a, b, rfl, rfl, rfl, rfl⟩
      | succ i => simpa using h5 i (by simpa using hi)
    · exact h.elim
  | [], y :: r', Kl, h => h.elim
  | x :: r, [], Kl, h => by cases x <;> exact h.elim

theorem eqFields_run {P : Program} {xs ys : Array Value} {l l' : List Int} (hx : ∀ i, i < xs.size → ∃ k a b, xs[i]? = some (.int k a) ∧ ys[i]? = some (.int k b) ∧ l[i]? = some a ∧ l'[i]? = some b) (d : Nat) (w : World) :
    ∀ (fs : List Field) (i : Nat), fieldsB P fs i = true → i + fs.length = xs.size → (Op.eqFields (d + 1) xs ys fs).run P w = .ok (decide (l.drop i = l'.drop i ∨ xs.size ≤ i)) w ∨ l.length ≠ xs.size ∨ l'.length ≠ xs.size
  | [], i, _, hi => by
    left
    simp only [Op.eqFields]
    rw [decide_eq_true (.inr (by simp at hi; omega))]
    rfl
  | f :: r, i, hf, hi => by
    by_cases hl : l.length = xs.size
    case neg => exact .inr (.inl hl)
    by_cases hl' : l'.length = xs.size
    case neg => exact .inr (.inr hl')
    left
    simp only [List.length_cons] at hi
    simp only [fieldsB, Bool.and_eq_true, bne_iff_ne, beq_iff_eq] at hf
    obtain ⟨⟨⟨h1, h2⟩, h3⟩, h4⟩ := hf
    obtain ⟨k, a, b, e1, e2, e3, e4⟩ := hx i (by omega)
    obtain ⟨kk, hkk⟩ : ∃ kk, P.underlying f.type = some (.int kk) := by
      split at h3
      · exact ⟨_, by assumption⟩
      · cases h3
    have hpart : ∀ (zs : Array Value) (v : Value), zs[i]? = some v → (part f.type zs f.offset).run P w = .ok v w := by
      intro zs v hz
      unfold part
      rw [h2]
      simp only [isAgg, underlying, program, bind, Sem.bind, Sem.run, hkk, hz]
      rfl
    simp only [Op.eqFields, if_pos h1, Sem.run_bind, hpart xs _ e1, hpart ys _ e2, Result.andThen_ok, run_equalIn_int w d f.type k kk a b hkk]
    have hdl : l.drop i = a :: l.drop (i + 1) := by
      obtain ⟨hlt, hh⟩ := List.getElem?_eq_some_iff.1 e3
      rw [List.drop_eq_getElem_cons hlt, hh]
    have hdl' : l'.drop i = b :: l'.drop (i + 1) := by
      obtain ⟨hlt, hh⟩ := List.getElem?_eq_some_iff.1 e4
      rw [List.drop_eq_getElem_cons hlt, hh]
    by_cases hab : a = b
    · subst hab
      have ih := (eqFields_run hx d w r (i + 1) h4 (by omega)).resolve_right (fun h => h.elim (fun h => h hl) (fun h => h hl'))
      simp only [beq_self_eq_true, Bool.not_true, Bool.false_eq_true, if_false]
      rw [ih, hdl, hdl']
      have : (decide (List.drop (i + 1) l = List.drop (i + 1) l' ∨ xs.size ≤ i + 1)) = decide (a :: List.drop (i + 1) l = a :: List.drop (i + 1) l' ∨ xs.size ≤ i) := by
        rw [decide_eq_decide]
        constructor
        · rintro (h | h)
          · exact .inl (by rw [h])
          · left
            rw [List.drop_eq_nil_of_le (by omega), List.drop_eq_nil_of_le (by omega)]
        · rintro (h | h)
          · exact .inl (List.cons.inj h).2
          · omega
      rw [this]
    · have : (a == b) = false := by simpa using hab
      simp only [this, Bool.not_false, if_true, Sem.run_pure]
      rw [decide_eq_false]
      rintro (h | h)
      · rw [hdl, hdl'] at h; exact hab (List.cons.inj h).1
      · omega

theorem agg_run {P : Program} {t : Nat} {op : BinOp} {xs ys : Array Value} {x y : Operand} (hE : ∀ t n, eqLook T.eqs t = some n → EqOK P t n) (h : aggK T t op xs ys K) :
    ∃ v, (∀ w, (do eqGuard op t x y (.agg xs) (.agg ys); binOp op t (.agg xs) (.agg ys) : Sem Value).run P w = .ok v w) ∧ K v := by
  unfold aggK at h
  split at h
  · rename_i n' hl
    split at h
    · rename_i hlen
      have hlen' := lenB_out _ _ hlen
      have E := hE t n' hl
      obtain ⟨l, l', h1, h2, h3, h4, h5⟩ := pairK_out _ _ _ h
      have hx : ∀ i, i < xs.size → ∃ k a b, xs[i]? = some (.int k a) ∧ ys[i]? = some (.int k b) ∧ l[i]? = some a ∧ l'[i]? = some b := by
        intro i hi
        have := h5 i (by simpa using hi)
        simpa using this
      have hrun : ∀ w, (Op.equalIn 10000 t (.agg xs) (.agg ys)).run P w = .ok (decide (l = l')) w := by
        intro w
        rw [run_equalIn_struct w 9999 t xs ys E.desc E.stood]
        have := (eqFields_run (P := P) (l := l) (l' := l') hx 9998 w (P.fieldsOf t).toList 0 E.fields (by rw [E.len, Nat.zero_add, ← hlen']; simp)).resolve_right (by
          rintro (h | h)
          · exact h (by rw [h2]; simp)
          · exact h (by rw [h3, ← h4]; simp))
        rw [this]
        simp only [List.drop_zero]
        congr 1
        rw [decide_eq_decide]
        constructor
        · rintro (h | h)
          · exact h
          · have hz : xs.toList.length = 0 := by simpa using h
            have e1 : l = [] := List.eq_nil_of_length_eq_zero (by rw [h2, hz])
            have e2 : l' = [] := List.eq_nil_of_length_eq_zero (by rw [h3, ← h4, hz])
            rw [e1, e2]
        · exact .inl
      split at h1
      · refine ⟨.bool (decide (l = l')), fun w => ?_, yes_bool (h1.dec)⟩
        rw [Sem.run_bind, run_eqGuard_agg w _ t x y xs ys E.guard, Result.andThen_ok, run_eql_struct, hrun]
        rfl
      · refine ⟨.bool (!decide (l = l')), fun w => ?_, not_bool (h1.dec)⟩
        rw [Sem.run_bind, run_eqGuard_agg w _ t x y xs ys E.guard, Result.andThen_ok, run_neq_struct, hrun]
        rfl
      · exact h1.elim
    · exact h.elim
  · exact h.elim
end
section
set_option linter.unusedVariables false
set_option linter.unusedSimpArgs false
variable {G : Cx} {hs : Hp} {T : Tab} {env : Env} {ρ : Operand → Value}

/-- From every such world the machine goes on, to such a world. -/
def Does (G : Cx) {α : Type} (m : Sem α) (hs : Hp) (K : α → Hp → Prop) : Prop :=
  ∀ w, St G hs w → ∃ a w' hs', m.run G.P w = .ok a w' ∧ St G hs' w' ∧ K a hs'
theorem does_of_svc {α : Type} {m : Sem α} {K : α → Hp → Prop} (h : svc G m hs K) : Does G m hs K := svc_sound m hs K h
theorem run_bind {P : Program} {α β : Type} (m : Sem α) (f : α → Sem β) {w w' : World} {a : α} (h : m.run P w = .ok a w') : (m.bind f).run P w = (f a).run P w' := by
  have := Sem.run_bind (P := P) w m f
  simp only [bind] at this
  rw [this, h]
  rfl
theorem Does.bind {α β : Type} {m : Sem α} {f : α → Sem β} {K : β → Hp → Prop} (h : Does G m hs fun a hs' => Does G (f a) hs' K) : Does G (m.bind f) hs K := by
  intro w hw
  obtain ⟨a, w1, hs1, hr, hw1, h1⟩ := h w hw
  obtain ⟨b, w2, hs2, hr2, hw2, h2⟩ := h1 w1 hw1
  exact ⟨b, w2, hs2, by rw [run_bind _ _ hr]; exact hr2, hw2, h2⟩
theorem Does.pure {α : Type} {a : α} {K : α → Hp → Prop} (h : K a hs) : Does G (Pure.pure a : Sem α) hs K := fun w hw => ⟨a, w, hs, rfl, hw, h⟩
theorem Does.mono {α : Type} {m : Sem α} {K K' : α → Hp → Prop} (h : Does G m hs K) (hk : ∀ a hs, K a hs → K' a hs) : Does G m hs K' := fun w hw => by
  obtain ⟨a, w1, hs1, hr, hw1, h1⟩ := h w hw
  exact ⟨a, w1, hs1, hr, hw1, hk _ _ h1⟩
/-- What is known may be said otherwise behind it. -/
theorem Does.turn {α : Type} {m : Sem α} {K K' : α → Hp → Prop} (h : Does G m hs K) (hk : ∀ a hs w, K a hs → St G hs w → ∃ hs', St G hs' w ∧ K' a hs') : Does G m hs K' := fun w hw => by
  obtain ⟨a, w1, hs1, hr, hw1, h1⟩ := h w hw
  obtain ⟨hs2, hw2, h2⟩ := hk _ _ _ h1 hw1
  exact ⟨a, w1, hs2, hr, hw2, h2⟩
theorem does_of_qvc {α : Type} {m : Sem α} {K : α → Prop} (h : qvc G m hs K) : Does G m hs (fun a hs' => K a ∧ hs' = hs) := does_of_svc (svc_of_qvc _ _ _ h)
theorem Does.quiet {α : Type} {m : Sem α} {K : α → Hp → Prop} (h : qvc G m hs fun a => K a hs) : Does G m hs K := (does_of_qvc h).mono fun a hs' hh => hh.2 ▸ hh.1

/-- An entry is exchanged for another one of its block. -/
inductive Upd (e e' : Ent) : Hp → Hp → Prop
  | head (r : Hp) : Upd e e' (e :: r) (e' :: r)
  | tail (x : Ent) {r r' : Hp} : Upd e e' r r' → Upd e e' (x :: r) (x :: r')
theorem Upd.mem {e e' : Ent} {hs hs' : Hp} (h : Upd e e' hs hs') : e ∈ hs := by
  induction h with
  | head r => exact List.mem_cons_self ..
  | tail x _ ih => exact List.mem_cons_of_mem _ ih
theorem Upd.ids {e e' : Ent} {hs hs' : Hp} (h : Upd e e' hs hs') (hb : e'.b = e.b) : hs'.map (·.b) = hs.map (·.b) := by
  induction h with
  | head r => simp [hb]
  | tail x _ ih => simp [ih]
theorem Upd.mem' {e e' : Ent} {hs hs' : Hp} (h : Upd e e' hs hs') (hn : (hs.map (·.b)).Nodup) : ∀ x ∈ hs', x = e' ∨ (x ∈ hs ∧ x.b ≠ e.b) := by
  induction h with
  | head r =>
    intro x hx
    rcases List.mem_cons.1 hx with rfl | hx
    · exact .inl rfl
    · refine .inr ⟨List.mem_cons_of_mem _ hx, fun hb => ?_⟩
      simp only [List.map_cons, List.nodup_cons] at hn
      exact hn.1 (List.mem_map.2 ⟨x, hx, hb⟩)
  | tail y hu ih =>
    intro x hx
    simp only [List.map_cons, List.nodup_cons] at hn
    rcases List.mem_cons.1 hx with rfl | hx
    · refine .inr ⟨List.mem_cons_self .., fun hb => hn.1 (List.mem_map.2 ⟨e, hu.mem, hb.symm⟩)⟩
    · rcases ih hn.2 x hx with rfl | ⟨h1, h2⟩
      · exact .inl rfl
      · exact .inr ⟨List.mem_cons_of_mem _ h1, h2⟩
theorem getD_spot (a : Addr) (h : a.spot = none) : a.spot.isSome = false := by rw [h]; rfl
theorem St.set_ {w : World} (hw : St G hs w) {b : Nat} {cs : List Value} {t : TypeId} {fr : Nat × Nat} {hs' : Hp} {off : Nat} {v : Value} (hu : Upd ⟨b, cs, t, fr⟩ ⟨b, cs.set off v, t, fr⟩ hs hs') :
    St G hs' (w.setCell ⟨b, off, none⟩ v) := by
  have hm := hu.mem
  have hb := hw.own _ hm
  have hsame : ∀ k, k ≠ b → (w.setCell ⟨b, off, none⟩ v).heap[k]? = w.heap[k]? := fun k hk => RowKit.Below.heap_setCell w _ v k hk
  refine ⟨hw.os, hw.tape, hw.output, ?_, ?_, ?_, ?_, ?_⟩
  · simpa [World.setCell] using hw.size
  · intro k hk hf
    have hne : k ≠ b := by
      rintro rfl
      rcases hw.new _ hm with h | h
      · have : G.w0.heap.size ≤ k := h
        omega
      · exact hf h
    rw [hsame k hne]
    exact hw.old k hk hf
  · intro x hx
    rcases hu.mem' hw.nodup x hx with rfl | ⟨h1, h2⟩
    · show (w.heap.modify b _)[b]? = _
      rw [Array.getElem?_modify, if_pos rfl, hb]
      simp
    · rw [hsame x.b h2]
      exact hw.own x h1
  · rw [hu.ids rfl]; exact hw.nodup
  · intro x hx
    rcases hu.mem' hw.nodup x hx with rfl | ⟨h1, h2⟩
    · exact hw.new ⟨b, cs, t, fr⟩ hm
    · exact hw.new x h1

theorem St.cell {w : World} (hw : St G hs w) {b : Nat} {cs : List Value} {t : TypeId} {fr : Nat × Nat} (hm : (⟨b, cs, t, fr⟩ : Ent) ∈ hs) (off : Nat) : w.cell? ⟨b, off, none⟩ = cs[off]? := by
  simp [World.cell?, hw.own _ hm]
theorem St.frozen {w : World} (hw : St G hs w) {b : Nat} {cs : List Value} {t : TypeId} {fr : Nat × Nat} (hm : (⟨b, cs, t, fr⟩ : Ent) ∈ hs) (off : Nat) : w.frozen? ⟨b, off, none⟩ = (fr.1 ≤ off && off < fr.2) := by
  simp [World.frozen?, hw.own _ hm]
theorem cellIs_at {b off : Nat} {cs : List Value} {t : TypeId} {fr : Nat × Nat} {v : Value} (hm : (⟨b, cs, t, fr⟩ : Ent) ∈ hs) (hv : cs[off]? = some v) : G.cellIs hs ⟨b, off, none⟩ v :=
  fun w hw => (hw.cell hm off).trans hv
theorem add_plain (b off i : Nat) : (⟨b, off, none⟩ : Addr).add i = ⟨b, off + i, none⟩ := by
  cases i <;> simp [Addr.add]
theorem cellsAre_at {b off : Nat} {cs vs : List Value} {t : TypeId} {fr : Nat × Nat} (hm : (⟨b, cs, t, fr⟩ : Ent) ∈ hs) (hv : ∀ i v, vs[i]? = some v → cs[off + i]? = some v) : G.cellsAre hs ⟨b, off, none⟩ vs :=
  fun i v h w hw => by rw [add_plain]; exact (hw.cell hm _).trans (hv i v h)
theorem cellsAre_whole {b : Nat} {cs : List Value} {t : TypeId} {fr : Nat × Nat} (hm : (⟨b, cs, t, fr⟩ : Ent) ∈ hs) : G.cellsAre hs ⟨b, 0, none⟩ cs :=
  cellsAre_at hm fun i v h => by rw [Nat.zero_add]; exact h
/-- Cells of the world at the call's begin. -/
theorem cellIs_old {a : Addr} {v : Value} (h : G.w0.cell? a = some v) (hf : a.block ∉ G.fp) : G.cellIs hs a v := by
  intro w hw
  have hlt : a.block < G.w0.heap.size := World.block_lt_of_cell? G.w0 a h
  rw [← h]
  exact World.cell?_of_block (w := G.w0) (hw.old _ hlt hf)

/-! ### Stores -/
structure StoreVC (G : Cx) (hs : Hp) (a : Addr) (vs : List Value) (K : Hp → Prop) : Prop where wrap ::
  raw : Does G (storeCells a vs) hs fun _ hs' => K hs'
theorem StoreVC_eq (G : Cx) (hs : Hp) (a : Addr) (vs : List Value) (K : Hp → Prop) : StoreVC G hs a vs K = (Does G (storeCells a vs) hs fun _ hs' => K hs') := propext ⟨fun h => h.raw, fun h => ⟨h⟩⟩
theorem storeCells_does {b : Nat} {t : TypeId} {fr : Nat × Nat} : ∀ (vs cs : List Value) (off i : Nat) (hs hs' : Hp), vs.all one = true → off + i + vs.length ≤ cs.length →
    (∀ j, off + i ≤ j → j < off + i + vs.length → (fr.1 ≤ j && j < fr.2) = false) → Upd ⟨b, cs, t, fr⟩ ⟨b, layL vs cs (off + i), t, fr⟩ hs hs' →
    Does G (storeCells ⟨b, off, none⟩ vs i) hs (fun _ h => h = hs')
  | [], cs, off, i, hs, hs', _, _, _, hu => fun w hw => ⟨(), w, hs, rfl, hw, by
      have : ∀ {h1 h2 : Hp}, Upd (⟨b, cs, t, fr⟩ : Ent) ⟨b, cs, t, fr⟩ h1 h2 → h1 = h2 := by
        intro h1 h2 hh
        generalize he : (⟨b, cs, t, fr⟩ : Ent) = e at hh
        induction hh with
        | head r => rfl
        | tail x _ ih => rw [ih]
      exact this hu⟩
  | v :: vs, cs, off, i, hs, hs', h1, hl, hf, hu => by
    simp only [List.all_cons, Bool.and_eq_true] at h1
    simp only [List.length_cons] at hl hf
    have hm := hu.mem
    have step : ∀ {h1 : Hp} {h2 : Hp} {cs2 : List Value}, Upd (⟨b, cs, t, fr⟩ : Ent) ⟨b, cs2, t, fr⟩ h1 h2 → ∀ cs1, ∃ h3, Upd (⟨b, cs, t, fr⟩ : Ent) ⟨b, cs1, t, fr⟩ h1 h3 ∧ Upd (⟨b, cs1, t, fr⟩ : Ent) ⟨b, cs2, t, fr⟩ h3 h2 := by
      intro h1 h2 cs2 hh cs1
      generalize he : (⟨b, cs, t, fr⟩ : Ent) = e at hh
      generalize he' : (⟨b, cs2, t, fr⟩ : Ent) = e' at hh
      induction hh with
      | head r => exact ⟨_, .head r, .head r⟩
      | tail x _ ih => obtain ⟨h3, ha, hb⟩ := ih; exact ⟨_, .tail x ha, .tail x hb⟩
    simp only [layL] at hu
    obtain ⟨hs1, hu1, hu2⟩ := step hu (cs.set (off + i) v)
    have ih := storeCells_does vs (cs.set (off + i) v) off (i + 1) hs1 hs' h1.2 (by simp; omega) (fun j hj1 hj2 => hf j (by omega) (by omega)) (by rw [show off + (i + 1) = off + i + 1 by omega]; exact hu2)
    refine Does.bind (m := store ((⟨b, off, none⟩ : Addr).add i) v) (f := fun _ => storeCells ⟨b, off, none⟩ vs (i + 1)) ?_
    refine does_of_svc ?_
    refine ⟨h1.1, hs1, ?_, ih⟩
    intro w hw
    rw [add_plain]
    refine ⟨?_, ?_, hw.set_ hu1⟩
    · rw [hw.cell hm]; rw [List.getElem?_eq_getElem (by omega)]; rfl
    · rw [hw.frozen hm]; exact hf _ (by omega) (by omega)
/-- No cell of the block is frozen. -/
def Soft (fr : Nat × Nat) (n : Nat) : Prop := fr.2 = 0 ∨ n ≤ fr.1
theorem Soft.at_ {fr : Nat × Nat} {n j : Nat} (h : Soft fr n) (hj : j < n) : (fr.1 ≤ j && j < fr.2) = false := by
  rcases h with h | h
  · simp [h]
  · simp; omega
theorem soft0 {n : Nat} : Soft (0, 0) n := .inl rfl
theorem StoreVC.at_ {b off : Nat} {cs vs : List Value} {t : TypeId} {fr : Nat × Nat} {hs' : Hp} {K : Hp → Prop} (hu : Upd ⟨b, cs, t, fr⟩ ⟨b, layL vs cs off, t, fr⟩ hs hs') (hfr : Soft fr cs.length) (h1 : vs.all one = true)
    (hl : off + vs.length ≤ cs.length) (h : K hs') : StoreVC G hs ⟨b, off, none⟩ vs K := by
  rw [StoreVC_eq]
  refine (storeCells_does (fr := fr) vs cs off 0 hs hs' h1 (by omega) (fun j _ hj => hfr.at_ (by omega)) (by rw [Nat.add_zero]; exact hu)).mono fun _ h' he => by rw [he]; exact h

/-- An entry taken out. -/
inductive Take (e : Ent) : Hp → Hp → Prop
  | head (r : Hp) : Take e (e :: r) r
  | tail (x : Ent) {r r' : Hp} : Take e r r' → Take e (x :: r) (x :: r')
theorem Take.perm {e : Ent} {hs r : Hp} (h : Take e hs r) : hs.Perm (e :: r) := by
  induction h with
  | head r => exact .refl _
  | tail x _ ih => exact (ih.cons x).trans (.swap ..)
theorem St.perm {hs hs' : Hp} {w : World} (h : St G hs w) (hp : hs.Perm hs') : St G hs' w :=
  ⟨h.os, h.tape, h.output, h.size, h.old, fun e he => h.own e (hp.mem_iff.2 he), (hp.map _).nodup_iff.1 h.nodup, fun e he => h.new e (hp.mem_iff.2 he)⟩
theorem Does.perm {α : Type} {m : Sem α} {hs hs' : Hp} {K : α → Hp → Prop} (hp : hs.Perm hs') (h : Does G m hs' K) : Does G m hs K := fun w hw => h w (hw.perm hp)
end
section
set_option linter.unusedVariables false
set_option linter.unusedSimpArgs false
variable {G : Cx} {hs : Hp} {T : Tab} {env : Env} {ρ : Operand → Value}

/-- So many zero elements. -/
def zerosL (n : Nat) : List Value → List Value
  | [v] => List.replicate n v
  | z => (List.range (n * z.length)).map fun i => z.toArray[i % z.length]!
theorem zeros_eq (n : Nat) (z : List Value) : ((Array.range (n * z.length)).map fun i => z.toArray[i % z.length]!) = (zerosL n z).toArray := by
  apply Array.ext'
  simp only [Array.toList_map, Array.toList_range]
  unfold zerosL
  split
  · rename_i v
    simp only [List.length_cons, List.length_nil, Nat.zero_add, Nat.mul_one, Nat.mod_one]
    apply List.ext_getElem
    · simp
    · intro i h1 h2; simp
  · rfl
theorem zeros_len (n : Nat) (z : List Value) : (zerosL n z).length = n * z.length := by
  unfold zerosL
  split
  · simp
  · simp

theorem zeroOf_cells {P : Program} {t : Nat} {i : TyI} (hi : TyOK P t i) : (zeroOf i).cells = i.zero.toArray := by
  unfold zeroOf
  cases ha : i.agg with
  | true => simp [Value.cells]
  | false =>
    obtain ⟨v, hv, hc⟩ := hi.zone ha
    rw [hv]
    exact hc

theorem does_new {cs : Array Value} {t : TypeId} {Kn : Nat → Hp → Prop} (h : ∀ b, Kn b (⟨b, cs.toList, t, (0, 0)⟩ :: hs)) : Does G (newObj (.cells cs t)) hs Kn :=
  does_of_svc (m := newObj (.cells cs t)) (fun b => h b)
theorem does_newRow {cs : Array Value} {t : TypeId} {Ka : Addr → Hp → Prop} (h : ∀ b, Ka ⟨b, 0, none⟩ (⟨b, cs.toList, t, (0, 0)⟩ :: hs)) : Does G (newRow t cs) hs Ka :=
  Does.bind (does_new fun b => Does.pure (h b))
theorem does_alloc {t : Nat} {i : TyI} {K : Value → Hp → Prop} (hi : TyOK G.P t i) (h : ∀ b, K (.pointer (some ⟨b, 0, none⟩)) (⟨b, i.zero, t, (0, 0)⟩ :: hs)) :
    Does G (Instr.alloc t true (.tuple #[])) hs K := by
  unfold Instr.alloc
  refine Does.bind (Does.quiet (q_zeroValue hi ?_))
  refine Does.bind (m := newVar t (zeroOf i)) (does_newRow fun b => Does.pure ?_)
  rw [zeroOf_cells hi]
  exact h b
theorem does_box {t : Nat} {v : Value} {K : Value → Hp → Prop} (h : ∀ b, K (.pointer (some ⟨b, 0, none⟩)) (⟨b, cellsL v, t, (0, 0)⟩ :: hs)) :
    Does G (Instr.box t v) hs K := by
  unfold Instr.box
  refine Does.bind (m := newVar t v) (does_newRow fun b => Does.pure ?_)
  rw [cells_eq]
  exact h b
def buildRowK (T : Tab) (t n : Nat) (parts : List (Nat × Value)) (K : Nat → List Value → Prop) : Prop := match look T.ts t with
  | some i => match i.d with
    | .slice e => match look T.ts e with
      | some j => Need (n * j.size ≤ 16777216) (partsK (fun q k => k (q * j.size) j.size) (fun l => K e l) (zerosL n j.zero) parts)
      | none => False
    | _ => False
  | none => False
theorem does_buildSlice {t n : Nat} {parts : Array (Nat × Value)} {K : Value → Hp → Prop} (hT : TabOK G.P T)
    (h : buildRowK T t n parts.toList fun e l => ∀ b, K (.slice (some ⟨b, 0, none⟩) n n) (⟨b, l, e, (0, 0)⟩ :: hs)) : Does G (Instr.buildSlice t n parts) hs K := by
  unfold buildRowK at h
  split at h
  · rename_i i hl
    have hd := look_desc hT hl
    split at h
    · rename_i e hdd
      simp only [hdd, descOk] at hd
      split at h
      · rename_i j hj
        have hj' := hT.ts e j hj
        obtain ⟨hn, h⟩ := Need.out h
        unfold Instr.buildSlice
        refine Does.bind (Does.quiet (q_underlying hd ?_))
        dsimp only
        refine Does.bind (Does.quiet (q_sizeOf hj' ?_))
        rw [if_neg (by omega)]
        obtain ⟨l', h1, h2⟩ := fill_out (fun i => some (i * j.size, j.size)) _ (fun i k hk => ⟨_, _, rfl, hk⟩) _ _ _ h
        have fin : Does G (do let a ← newRow e l'.toArray; pure (Value.slice (some a) n n)) hs K :=
          Does.bind (does_newRow fun b => Does.pure (h2 b))
        by_cases h0 : n * j.size = 0
        · have hz : ((Array.range (n * j.size)).map fun x => (#[] : Array Value)[x % (#[] : Array Value).size]!) = (zerosL n j.zero).toArray := by
            have hl0 : zerosL n j.zero = [] := List.eq_nil_of_length_eq_zero (by rw [zeros_len, hj'.zlen]; exact h0)
            rw [hl0, h0]; simp
          rw [if_pos h0]
          refine Does.bind (Does.pure ?_)
          rw [hz, h1]
          exact fin
        · rw [if_neg h0]
          refine Does.bind (m := zeroValue e) (Does.quiet (q_zeroValue hj' ?_))
          refine Does.bind (Does.pure ?_)
          rw [zeroOf_cells hj']
          have hz := zeros_eq n j.zero
          rw [hj'.zlen] at hz
          simp only [List.size_toArray, hj'.zlen]
          rw [hz, h1]
          exact fin
      · exact h.elim
    · exact h.elim
  · exact h.elim

def makeK (T : Tab) (t : Nat) (l c : Value) (K : Nat → Nat → Nat → List Value → Prop) : Prop := match l, c with
  | .int .i64 l, .int .i64 c => match look T.ts t with
    | some i => match i.d with
      | .slice e => match look T.ts e with
        | some j => Need (0 ≤ l ∧ l ≤ c ∧ c * j.bytes ≤ 281474976710656 ∧ 1 ≤ j.bytes) (K l.toNat c.toNat e (zerosL c.toNat j.zero))
        | none => False
      | _ => False
    | none => False
  | _, _ => False
theorem does_askRoom {n : Nat} {Ku : Unit → Hp → Prop} (h : Ku () hs) : Does G (askRoom n) hs Ku := by
  unfold askRoom
  split
  · exact does_of_svc (m := mark .noRoom) h
  · exact Does.pure h
theorem does_asInt {k : IntKind} {n : Int} {Ki : Int → Hp → Prop} (h : Ki n hs) : Does G (asInt (.int k n)) hs Ki := fun w hw => ⟨n, w, hs, rfl, hw, h⟩
theorem wrap_i64 {x : Int} (h1 : -9223372036854775808 ≤ x) (h2 : x ≤ 9223372036854775807) : IntKind.i64.wrap x = x := by
  unfold IntKind.wrap
  simp [IntKind.signed, IntKind.bits]
  omega
theorem does_makeSlice {t : Nat} {l c : Value} {K : Value → Hp → Prop} (hT : TabOK G.P T)
    (h : makeK T t l c fun l c e z => ∀ b, K (.slice (some ⟨b, 0, none⟩) l c) (⟨b, z, e, (0, 0)⟩ :: hs)) : Does G (Instr.makeSlice t l c) hs K := by
  unfold makeK at h
  split at h
  · rename_i l c
    split at h
    · rename_i i hl
      have hd := look_desc hT hl
      split at h
      · rename_i e hdd
        simp only [hdd, descOk] at hd
        split at h
        · rename_i j hj
          have hj' := hT.ts e j hj
          obtain ⟨ti, hti, hs1, hs2, hs3⟩ := hj'.look
          obtain ⟨⟨h1, h2, h3, h4⟩, h⟩ := Need.out h
          have hc0 : 0 ≤ c := by omega
          have hcb : c ≤ 281474976710656 := by
            have : c * 1 ≤ c * (j.bytes : Int) := Int.mul_le_mul_of_nonneg_left (by omega) hc0
            omega
          unfold Instr.makeSlice
          refine Does.bind (Does.quiet (q_underlying hd ?_))
          dsimp only
          refine Does.bind (does_asInt ?_)
          refine Does.bind (does_asInt ?_)
          refine Does.bind (Does.quiet (q_typeInfo hti ?_))
          rw [wrap_i64 (x := l) (by omega) (by omega), wrap_i64 (x := c) (by omega) (by omega), hs2]
          have hb : (j.bytes : Int) * c ≤ 281474976710656 := by rw [Int.mul_comm]; exact h3
          have hlc : (j.bytes : Int) * l ≤ 281474976710656 := Int.le_trans (Int.mul_le_mul_of_nonneg_left h2 (by omega)) hb
          rw [if_neg (by simp; omega)]
          refine Does.bind (does_askRoom ?_)
          refine Does.bind (Does.quiet (q_sizeOf hj' ?_))
          have fin : ∀ z : Array Value, z.toList = zerosL c.toNat j.zero → Does G (do let a ← newRow e z; pure (Value.slice (some a) l.toNat c.toNat)) hs K := fun z hz =>
            Does.bind (does_newRow fun b => Does.pure (by rw [hz]; exact h b))
          by_cases h0 : c.toNat * j.size = 0
          · rw [if_pos h0]
            refine Does.bind (Does.pure (fin _ ?_))
            rw [h0]
            have : zerosL c.toNat j.zero = [] := List.eq_nil_of_length_eq_zero (by rw [zeros_len, hj'.zlen]; exact h0)
            rw [this]; simp
          · rw [if_neg h0]
            refine Does.bind (m := zeroValue e) (Does.quiet (q_zeroValue hj' ?_))
            refine Does.bind (Does.pure (fin _ ?_))
            rw [zeroOf_cells hj']
            have hz := zeros_eq c.toNat j.zero
            rw [hj'.zlen] at hz
            simp only [List.size_toArray, hj'.zlen]
            rw [hz]
        · exact h.elim
      · exact h.elim
    · exact h.elim
  · exact h.elim
end
section
set_option linter.unusedVariables false
set_option linter.unusedSimpArgs false
variable {G : Cx} {hs : Hp} {T : Tab} {env : Env} {ρ : Operand → Value}

/-- The cells that a slice (or a text) is made of. -/
inductive Holds (G : Cx) (hs : Hp) (size : Nat) : Value → Nat → List Value → Prop
  | nil (A : Option Addr) (c : Nat) : Holds G hs size (.slice A 0 c) 0 []
  | row {a : Addr} {n c : Nat} {xs : List Value} (hl : xs.length = n * size) (hc : G.cellsAre hs a xs) : Holds G hs size (.slice (some a) n c) n xs
  | text {s : ByteArray} (h1 : size = 1) : Holds G hs size (.string s) s.size (s.data.toList.map fun b => .int .u8 b.toNat)
theorem Holds.len {size n : Nat} {v : Value} {xs : List Value} (h : Holds G hs size v n xs) : xs.length = n * size := by
  cases h with
  | nil => simp
  | row hl hc => exact hl
  | text h1 => subst h1; rw [List.length_map, Nat.mul_one, Array.length_toList]; rfl
theorem Holds.slice_len {size n n' c : Nat} {A : Option Addr} {xs : List Value} (h : Holds G hs size (.slice A n' c) n xs) : n' = n := by
  cases h <;> rfl
theorem q_lenOf {size n : Nat} {v : Value} {xs : List Value} {Kn : Nat → Prop} (h : Holds G hs size v n xs) (hk : Kn n) : qvc G (Builtin.lenOf v) hs Kn := by
  cases h <;> exact hk
theorem q_firstCells {size n : Nat} {v : Value} {xs : List Value} {Ka : Array Value → Prop} (h : Holds G hs size v n xs) (hk : Ka xs.toArray) : qvc G (Builtin.firstCells size n v) hs Ka := by
  cases h with
  | nil A c =>
    cases A with
    | none => exact hk
    | some a =>
      show qvc G (loadCells a (0 * size)) hs Ka
      rw [Nat.zero_mul]
      exact hk
  | row hl hc => exact q_loadCells hl hc hk
  | text h1 =>
    rename_i s
    show Ka _
    have e : (s.extract 0 s.size).data.map (fun b => Value.int .u8 b.toNat) = (s.data.toList.map fun b => Value.int .u8 (b.toNat : Int)).toArray := by
      have : s.extract 0 s.size = s := by simp
      rw [this]
      apply Array.ext'
      simp
    rw [e]; exact hk

theorem grow_bound (need : Nat) : ∀ (r c : Nat), c ≤ need → Builtin.growBy need r c ≤ 2 * need + 192
  | 0, c, h => by simp only [Builtin.growBy]; omega
  | r + 1, c, h => by
    simp only [Builtin.growBy]
    split
    · omega
    · by_cases h2 : c + (c + 768) / 4 ≤ need
      · exact grow_bound need r _ h2
      · have : ∀ r c, need ≤ c → Builtin.growBy need r c = c := by
          intro r c hc
          cases r with
          | zero => rfl
          | succ r => simp only [Builtin.growBy]; rw [if_pos hc]
        rw [this r _ (by omega)]
        omega
theorem next_bound (need old : Nat) (h : old < need) : Builtin.nextslicecap need old ≤ 2 * need + 192 := by
  unfold Builtin.nextslicecap
  split
  · omega
  · split
    · omega
    · exact grow_bound need 4 old (by omega)

structure AppendVC (G : Cx) (hs : Hp) (t tx : Nat) (s x : Value) (K : Value → Hp → Prop) : Prop where wrap ::
  raw : ∀ ty, Does G (Builtin.append_ #[t, tx] ty #[s, x]) hs K
theorem AppendVC_eq (G : Cx) (hs : Hp) (t tx : Nat) (s x : Value) (K : Value → Hp → Prop) : AppendVC G hs t tx s x K = (∀ ty, Does G (Builtin.append_ #[t, tx] ty #[s, x]) hs K) := propext ⟨fun h => h.raw, fun h => ⟨h⟩⟩

theorem AppendVC.any {t tx e : Nat} {i j l : TyI} {base : Option Addr} {sLen sCap n : Nat} {x : Value} {olds news : List Value} {K : Value → Hp → Prop} (hT : TabOK G.P T)
    (hi : look T.ts t = some i) (hd : i.d = .slice e) (hj : look T.ts e = some j) (hl : look T.ts tx = some l) (hld : l.d = .str ∨ ∃ q, l.d = .slice q)
    (hold : Holds G hs j.size (.slice base sLen sCap) sLen olds) (hnew : Holds G hs j.size x n news) (hb1 : 1 ≤ j.bytes)
    (room : sCap < sLen + n → (2 * (sLen + n) + 192) * j.bytes ≤ 281474976710656)
    (hgrow : sCap < sLen + n → ∀ b cap', sLen + n ≤ cap' → K (.slice (some ⟨b, 0, none⟩) (sLen + n) cap') (⟨b, olds ++ news ++ zerosL (cap' - (sLen + n)) j.zero, e, (0, 0)⟩ :: hs))
    (hfit : sLen + n ≤ sCap → (base = none → K (.slice none (sLen + n) sCap) hs) ∧ ∀ a, base = some a → StoreVC G hs (a.add (sLen * j.size)) news (fun hs' => K (.slice base (sLen + n) sCap) hs')) :
    AppendVC G hs t tx (.slice base sLen sCap) x K := by
  rw [AppendVC_eq]
  intro ty
  have hdd := look_desc hT hi
  simp only [hd, descOk] at hdd
  have hdl := look_desc hT hl
  have hj' := hT.ts e j hj
  obtain ⟨ti, hti, hs1, hs2, hs3⟩ := hj'.look
  unfold Builtin.append_
  rcases hld with h | ⟨q, h⟩ <;> simp only [h, descOk] at hdl
  all_goals
    simp only [List.getElem?_toArray, List.getElem?_cons_zero, List.getElem?_cons_succ]
    refine Does.bind (Does.quiet (q_underlying hdd ?_))
    dsimp only
    refine Does.bind (Does.quiet (q_sizeOf hj' ?_))
    refine Does.bind (Does.quiet (q_underlying hdl ?_))
    refine Does.bind (Does.pure ?_)
    simp only [Bool.false_eq_true, if_false, Bool.not_false, if_true]
    refine Does.bind (m := Builtin.lenOf x) (Does.quiet (q_lenOf hnew ?_))
    by_cases hfitc : sLen + n ≤ sCap
    · rw [if_pos hfitc]
      refine Does.bind (m := Builtin.firstCells j.size n x) (Does.quiet (q_firstCells hnew ?_))
      obtain ⟨h1, h2⟩ := hfit hfitc
      cases base with
      | none => exact Does.pure (h1 rfl)
      | some a =>
        have h3 := h2 a rfl
        rw [StoreVC_eq] at h3
        refine Does.bind (m := storeCells (a.add (sLen * j.size)) news.toArray.toList) (f := fun _ => pure _) ?_
        exact h3.mono fun _ hs' hk => Does.pure hk
    · rw [if_neg hfitc]
      have hlt : sCap < sLen + n := by omega
      have hrm := room hlt
      refine Does.bind (Does.quiet (q_typeInfo hti ?_))
      have hnb : ¬ ((sLen + n : Nat) : Int) > IntKind.i64.max := by
        have : IntKind.i64.max = 9223372036854775807 := by decide
        rw [this]
        have : (2 * (sLen + n) + 192) * 1 ≤ (2 * (sLen + n) + 192) * j.bytes := Nat.mul_le_mul_left _ hb1
        omega
      rw [if_neg (fun h => hnb h.1)]
      refine Does.bind (Does.quiet (q_typeInfo hti ?_))
      have hnx : ¬ Builtin.nextslicecap (sLen + n) sCap * ti.bytes > 2 ^ 48 := by
        rw [hs2]
        have h1 := next_bound (sLen + n) sCap hlt
        have := Nat.mul_le_mul_right j.bytes h1
        omega
      rw [if_neg hnx]
      have hch : ∀ {Kc : Nat → Hp → Prop}, (∀ c, sLen + n ≤ c → Kc c hs) → Does G (choose (.appendCap (sLen + n) sCap e)) hs Kc := by
        intro Kc hk
        refine does_of_svc (m := choose (.appendCap (sLen + n) sCap e)) ?_
        rintro c ⟨t', ht'⟩
        refine hk c ?_
        rw [ht']
        simp [Question.forced, Question.cut]
      refine Does.bind (hch fun c hc => ?_)
      refine Does.bind (Does.quiet (q_typeInfo hti ?_))
      refine Does.bind (does_askRoom ?_)
      refine Does.bind (m := Builtin.firstCells j.size sLen (.slice base sLen sCap)) (Does.quiet (q_firstCells hold ?_))
      refine Does.bind (m := Builtin.firstCells j.size n x) (Does.quiet (q_firstCells hnew ?_))
      refine Does.bind (m := zeroValue e) (Does.quiet (q_zeroValue hj' ?_))
      refine Does.bind (does_newRow fun b => Does.pure ?_)
      have hz : (olds.toArray ++ news.toArray ++ Builtin.zeroCells (zeroOf j).cells (c - (sLen + n))).toList = olds ++ news ++ zerosL (c - (sLen + n)) j.zero := by
        have := zeros_eq (c - (sLen + n)) j.zero
        unfold Builtin.zeroCells
        rw [zeroOf_cells hj']
        simp only [List.size_toArray]
        rw [this]
        simp
      rw [hz]
      exact hgrow hlt b c hc
end
section
set_option linter.unusedVariables false
set_option linter.unusedSimpArgs false
variable {G : Cx} {hs : Hp} {T : Tab} {env : Env} {ρ : Operand → Value}

theorem layL_len : ∀ (vs cs : List Value) (n : Nat), (layL vs cs n).length = cs.length
  | [], _, _ => rfl
  | v :: vs, cs, n => by rw [layL, layL_len]; simp
theorem layL_eq : ∀ (vs cs : List Value) (n : Nat), n + vs.length ≤ cs.length → layL vs cs n = cs.take n ++ vs ++ cs.drop (n + vs.length)
  | [], cs, n, _ => by simp [layL]
  | v :: vs, cs, n, h => by
    simp only [List.length_cons] at h
    rw [layL, layL_eq vs _ _ (by simp; omega)]
    have h1 : (cs.set n v).take (n + 1) = cs.take n ++ [v] := by
      rw [List.take_succ_eq_append_getElem (by simp; omega)]
      simp [List.take_set_of_le]
    have h2 : (cs.set n v).drop (n + 1 + vs.length) = cs.drop (n + 1 + vs.length) := by
      rw [List.drop_set_of_lt (by omega)]
    rw [h1, h2]
    simp [Nat.add_assoc, Nat.add_comm 1]

/-- What a table must say of append's types. -/
structure ApT (T : Tab) (t tx e : Nat) (j : TyI) : Prop where
  dst : ∃ i, look T.ts t = some i ∧ i.d = .slice e
  elem : look T.ts e = some j
  src : ∃ l, look T.ts tx = some l ∧ (l.d = .str ∨ ∃ q, l.d = .slice q)
  b1 : 1 ≤ j.bytes

theorem AppendVC.nil {t tx e n : Nat} {j : TyI} {x : Value} {xs : List Value} {K : Value → Hp → Prop} (hT : TabOK G.P T) (ht : ApT T t tx e j) (hx : Holds G hs j.size x n xs)
    (room : (2 * n + 192) * j.bytes ≤ 281474976710656) (h0 : n = 0 → K (.slice none 0 0) hs)
    (h1 : 0 < n → ∀ b cap, n ≤ cap → K (.slice (some ⟨b, 0, none⟩) n cap) (⟨b, xs ++ zerosL (cap - n) j.zero, e, (0, 0)⟩ :: hs)) :
    AppendVC G hs t tx (.slice none 0 0) x K := by
  obtain ⟨i, hi, hd⟩ := ht.dst
  obtain ⟨l, hl, hld⟩ := ht.src
  refine AppendVC.any hT hi hd ht.elem hl hld (Holds.nil none 0) hx ht.b1 (fun _ => by simpa using room) (fun hlt b cap hc => ?_) (fun hle => ⟨fun _ => ?_, fun a ha => by cases ha⟩)
  · simp only [Nat.zero_add, List.nil_append] at hc ⊢
    exact h1 (by omega) b cap hc
  · have : n = 0 := by omega
    subst this
    exact h0 rfl

/-- Onto a row of the call's own, at its block's begin. -/
theorem AppendVC.own {t tx e n m b cap : Nat} {j : TyI} {x : Value} {cs ys : List Value} {fr : Nat × Nat} {rest : Hp} {K : Value → Hp → Prop} (hT : TabOK G.P T) (ht : ApT T t tx e j)
    (hm : Take ⟨b, cs, e, fr⟩ hs rest) (hfr : Soft fr cs.length) (hcs : cs.length = cap * j.size) (hn : n ≤ cap) (hx : Holds G hs j.size x m ys) (hone : ys.all one = true)
    (room : (2 * (n + m) + 192) * j.bytes ≤ 281474976710656)
    (h : ∀ b' cs' cap' fr', cs'.length = cap' * j.size → n + m ≤ cap' → Soft fr' cs'.length → cs'.take ((n + m) * j.size) = cs.take (n * j.size) ++ ys →
      K (.slice (some ⟨b', 0, none⟩) (n + m) cap') (⟨b', cs', e, fr'⟩ :: rest)) :
    AppendVC G hs t tx (.slice (some ⟨b, 0, none⟩) n cap) x K := by
  obtain ⟨i, hi, hd⟩ := ht.dst
  obtain ⟨l, hl, hld⟩ := ht.src
  have hmem : (⟨b, cs, e, fr⟩ : Ent) ∈ hs := hm.perm.mem_iff.2 (List.mem_cons_self ..)
  have hle : n * j.size ≤ cap * j.size := Nat.mul_le_mul_right _ hn
  have hold : Holds G hs j.size (.slice (some ⟨b, 0, none⟩) n cap) n (cs.take (n * j.size)) :=
    .row (by rw [List.length_take]; omega) (cellsAre_at hmem fun k v hv => by
      rw [Nat.zero_add]
      rw [List.getElem?_take] at hv
      split at hv
      · exact hv
      · cases hv)
  have hylen := hx.len
  have key : AppendVC G hs t tx (.slice (some ⟨b, 0, none⟩) n cap) x (fun v hs' => ∀ w, St G hs' w → ∃ hs'', St G hs'' w ∧ K v hs'') := by
    refine AppendVC.any hT hi hd ht.elem hl hld hold hx ht.b1 (fun _ => room) (fun hlt b' cap' hc => ?_) (fun hfit => ⟨(fun hb => by cases hb), fun a ha => ?_⟩)
    · intro w hw
      have hlen : (cs.take (n * j.size) ++ ys).length = (n + m) * j.size := by
        rw [List.length_append, List.length_take, hylen, Nat.min_eq_left (by omega), Nat.add_mul]
      refine ⟨⟨b', cs.take (n * j.size) ++ ys ++ zerosL (cap' - (n + m)) j.zero, e, (0, 0)⟩ :: rest, ?_, ?_⟩
      · have := hw.perm (hm.perm.cons _)
        exact this.sub ((List.sublist_cons_self ..).cons_cons _)
      · refine h b' _ cap' (0, 0) ?_ hc soft0 ?_
        · have hz := zeros_len (cap' - (n + m)) j.zero
          rw [(hT.ts e j ht.elem).zlen] at hz
          rw [List.length_append, hlen, hz, ← Nat.add_mul]
          congr 1; omega
        · rw [List.take_append_of_le_length (by omega), List.take_of_length_le (by omega)]
    · cases ha
      rw [StoreVC_eq]
      have hu : Upd ⟨b, cs, e, fr⟩ ⟨b, layL ys cs (n * j.size), e, fr⟩ (⟨b, cs, e, fr⟩ :: rest) (⟨b, layL ys cs (n * j.size), e, fr⟩ :: rest) := .head _
      have hroom : n * j.size + ys.length ≤ cs.length := by
        rw [hylen, hcs, ← Nat.add_mul]; exact Nat.mul_le_mul_right _ hfit
      have hst := storeCells_does (G := G) (fr := fr) (b := b) ys cs (n * j.size) 0 _ _ hone (by omega) (fun k _ hk => hfr.at_ (by omega)) (by rw [Nat.add_zero]; exact hu)
      rw [add_plain, Nat.zero_add]
      refine Does.perm hm.perm (hst.mono fun _ h' he => ?_)
      subst he
      intro w hw
      refine ⟨_, hw, h b _ cap fr ?_ hfit ?_ ?_⟩
      · rw [layL_len]; exact hcs
      · rw [layL_len]; exact hfr
      · rw [layL_eq _ _ _ hroom, List.append_assoc, Nat.add_mul, ← hylen]
        have hl1 : (cs.take (n * j.size)).length = n * j.size := by rw [List.length_take]; omega
        have e1 : (cs.take (n * j.size) ++ (ys ++ cs.drop (n * j.size + ys.length))).take (n * j.size + ys.length) = cs.take (n * j.size) ++ ys := by
          rw [← List.append_assoc, List.take_append_of_le_length (by rw [List.length_append, hl1]; omega), List.take_of_length_le (by rw [List.length_append, hl1]; omega)]
        exact e1
  rw [AppendVC_eq] at key ⊢
  intro ty
  exact (key ty).turn fun v hs' w hk hw => hk w hw

/-- Onto a row without room: what was there stays as it is. -/
theorem AppendVC.full {t tx e n m : Nat} {j : TyI} {A : Option Addr} {x : Value} {xs ys : List Value} {K : Value → Hp → Prop} (hT : TabOK G.P T) (ht : ApT T t tx e j)
    (hs1 : Holds G hs j.size (.slice A n n) n xs) (hx : Holds G hs j.size x m ys) (room : (2 * (n + m) + 192) * j.bytes ≤ 281474976710656)
    (h0 : m = 0 → K (.slice A n n) hs)
    (h1 : 0 < m → ∀ b cap, n + m ≤ cap → K (.slice (some ⟨b, 0, none⟩) (n + m) cap) (⟨b, xs ++ ys ++ zerosL (cap - (n + m)) j.zero, e, (0, 0)⟩ :: hs)) :
    AppendVC G hs t tx (.slice A n n) x K := by
  obtain ⟨i, hi, hd⟩ := ht.dst
  obtain ⟨l, hl, hld⟩ := ht.src
  have hylen := hx.len
  refine AppendVC.any hT hi hd ht.elem hl hld hs1 hx ht.b1 (fun _ => room) (fun hlt b cap hc => h1 (by omega) b cap hc) (fun hle => ?_)
  have hm0 : m = 0 := by omega
  subst hm0
  refine ⟨fun hb => by subst hb; exact h0 rfl, fun a ha => ?_⟩
  have : ys = [] := List.eq_nil_of_length_eq_zero (by rw [hylen, Nat.zero_mul])
  subst this
  rw [StoreVC_eq]
  exact Does.pure (h0 rfl)
end
section
set_option linter.unusedVariables false
set_option linter.unusedSimpArgs false
variable {G : Cx} {hs : Hp} {T : Tab} {env : Env} {ρ : Operand → Value}

structure CopyVC (G : Cx) (hs : Hp) (t tx : Nat) (d x : Value) (K : Value → Hp → Prop) : Prop where wrap ::
  raw : ∀ ty, Does G (Builtin.copy_ #[t, tx] ty #[d, x]) hs K
theorem CopyVC_eq (G : Cx) (hs : Hp) (t tx : Nat) (d x : Value) (K : Value → Hp → Prop) : CopyVC G hs t tx d x K = (∀ ty, Does G (Builtin.copy_ #[t, tx] ty #[d, x]) hs K) := propext ⟨fun h => h.raw, fun h => ⟨h⟩⟩
theorem CopyVC.all {t tx e n m c : Nat} {i j : TyI} {A : Option Addr} {x : Value} {ys : List Value} {K : Value → Hp → Prop} (hT : TabOK G.P T) (hi : look T.ts t = some i) (hd : i.d = .slice e) (hj : look T.ts e = some j)
    (hx : Holds G hs j.size x m ys) (hm : m ≤ n) (hA : ∀ a, A = some a → StoreVC G hs a ys fun hs' => K (.int .i64 m) hs') (h0 : A = none → K (.int .i64 m) hs) :
    CopyVC G hs t tx (.slice A n c) x K := by
  rw [CopyVC_eq]
  intro ty
  have hdd := look_desc hT hi
  simp only [hd, descOk] at hdd
  unfold Builtin.copy_
  simp only [List.getElem?_toArray, List.getElem?_cons_zero, List.getElem?_cons_succ]
  refine Does.bind (Does.quiet (q_underlying hdd ?_))
  dsimp only
  refine Does.bind (m := Builtin.lenOf x) (Does.quiet (q_lenOf hx ?_))
  refine Does.bind (Does.quiet (q_sizeOf (hT.ts e j hj) ?_))
  have hmin : m.min n = m := Nat.min_eq_left hm
  rw [hmin]
  refine Does.bind (m := Builtin.firstCells j.size m x) (Does.quiet (q_firstCells hx ?_))
  cases A with
  | none => exact Does.pure (h0 rfl)
  | some a =>
    have h3 := hA a rfl
    rw [StoreVC_eq] at h3
    refine Does.bind (m := storeCells a ys.toArray.toList) (f := fun _ => pure _) ?_
    exact h3.mono fun _ hs' hk => Does.pure hk

def byteCells (s : ByteArray) : List Value := s.data.toList.map fun b => .int .u8 b.toNat
theorem does_bytes {e : Nat} {s : ByteArray} {K : Value → Hp → Prop}
    (h : ∀ b cap, s.size ≤ cap → K (.slice (some ⟨b, 0, none⟩) s.size cap) (⟨b, byteCells s ++ List.replicate (cap - s.size) (.int .u8 0), e, (cap, cap + 1)⟩ :: hs)) :
    Does G (Conv.stringToBytes e s) hs K := by
  unfold Conv.stringToBytes
  have hch : ∀ {Kc : Nat → Hp → Prop}, (∀ c, s.size ≤ c → Kc c hs) → Does G (choose (.appendCap s.size 0 e)) hs Kc := by
    intro Kc hk
    refine does_of_svc (m := choose (.appendCap s.size 0 e)) ?_
    rintro c ⟨t', ht'⟩
    refine hk c ?_
    rw [ht']
    simp [Question.forced, Question.cut]
  refine Does.bind (hch fun c hc => ?_)
  dsimp only
  refine Does.bind (does_newRow fun b => ?_)
  have hsz : (s.data.map (fun b => Value.int .u8 b.toNat) ++ Array.replicate (c - s.size) (Value.int .u8 0)).toList = byteCells s ++ List.replicate (c - s.size) (.int .u8 0) := by
    unfold byteCells
    simp
  rw [hsz]
  have hlen : (byteCells s ++ List.replicate (c - s.size) (Value.int .u8 0)).length = c := by
    unfold byteCells
    rw [List.length_append, List.length_map, List.length_replicate, Array.length_toList]
    have : s.data.size = s.size := rfl
    omega
  refine Does.bind (m := markStringish ⟨b, 0, none⟩) ?_
  unfold markStringish
  refine does_of_svc ?_
  refine ⟨_, List.mem_cons_self .., rfl, ?_⟩
  rw [hlen]
  refine ⟨⟨b, byteCells s ++ List.replicate (c - s.size) (.int .u8 0), e, (c, c + 1)⟩ :: hs, ?_, Does.pure (h b c hc)⟩
  intro w hw
  have hb := hw.own _ (List.mem_cons_self ..)
  have hnd := hw.nodup
  simp only [List.map_cons, List.nodup_cons] at hnd
  have hfr : w.freeze ⟨b, c, none⟩ 1 = { w with heap := w.heap.modify b fun
      | .cells cs elem (lo, hi) => .cells cs elem (if lo == hi then (c, c + 1) else (min lo c, max hi (c + 1)))
      | o => o } := rfl
  rw [hfr]
  refine ⟨hw.os, hw.tape, hw.output, by simpa using hw.size, ?_, ?_, hw.nodup, ?_⟩
  · intro k hk hf
    have hne : b ≠ k := by
      rintro rfl
      rcases hw.new _ (List.mem_cons_self ..) with h | h
      · have : G.w0.heap.size ≤ b := h
        omega
      · exact hf h
    show (w.heap.modify b _)[k]? = _
    rw [Array.getElem?_modify, if_neg hne]
    exact hw.old k hk hf
  · intro x hx
    show (w.heap.modify b _)[x.b]? = _
    rcases List.mem_cons.1 hx with rfl | hx
    · rw [Array.getElem?_modify, if_pos rfl, hb]
      simp
    · have hne : b ≠ x.b := fun hh => hnd.1 (List.mem_map.2 ⟨x, hx, hh.symm⟩)
      rw [Array.getElem?_modify, if_neg hne]
      exact hw.own x (List.mem_cons_of_mem _ hx)
  · intro x hx
    rcases List.mem_cons.1 hx with rfl | hx
    · exact hw.new ⟨b, byteCells s ++ List.replicate (c - s.size) (.int .u8 0), e, (0, 0)⟩ (List.mem_cons_self ..)
    · exact hw.new x (List.mem_cons_of_mem _ hx)

/-- A row of bytes taken as another one of its type: the place behind it is marked. -/
structure MarkVC (G : Cx) (hs : Hp) (a : Addr) (K : Hp → Prop) : Prop where wrap ::
  raw : Does G (markStringish a) hs fun _ hs' => K hs'
theorem does_mark {b : Nat} {cs : List Value} {t : TypeId} {rest : Hp} {K : Hp → Prop} (h : K (⟨b, cs, t, (cs.length, cs.length + 1)⟩ :: rest)) : Does G (markStringish ⟨b, 0, none⟩) (⟨b, cs, t, (0, 0)⟩ :: rest) fun _ hs' => K hs' := by
  unfold markStringish
  refine does_of_svc ?_
  refine ⟨_, List.mem_cons_self .., rfl, ?_⟩
  refine ⟨⟨b, cs, t, (cs.length, cs.length + 1)⟩ :: rest, ?_, h⟩
  intro w hw
  have hb := hw.own _ (List.mem_cons_self ..)
  have hnd := hw.nodup
  simp only [List.map_cons, List.nodup_cons] at hnd
  have hfr : w.freeze ⟨b, cs.length, none⟩ 1 = { w with heap := w.heap.modify b fun
      | .cells cs' elem (lo, hi) => .cells cs' elem (if lo == hi then (cs.length, cs.length + 1) else (min lo cs.length, max hi (cs.length + 1)))
      | o => o } := rfl
  rw [hfr]
  refine ⟨hw.os, hw.tape, hw.output, by simpa using hw.size, ?_, ?_, hw.nodup, ?_⟩
  · intro k hk hf
    have hne : b ≠ k := by
      rintro rfl
      rcases hw.new _ (List.mem_cons_self ..) with h | h
      · have : G.w0.heap.size ≤ b := h
        omega
      · exact hf h
    show (w.heap.modify b _)[k]? = _
    rw [Array.getElem?_modify, if_neg hne]
    exact hw.old k hk hf
  · intro x hx
    show (w.heap.modify b _)[x.b]? = _
    rcases List.mem_cons.1 hx with rfl | hx
    · rw [Array.getElem?_modify, if_pos rfl, hb]
      simp
    · have hne : b ≠ x.b := fun hh => hnd.1 (List.mem_map.2 ⟨x, hx, hh.symm⟩)
      rw [Array.getElem?_modify, if_neg hne]
      exact hw.own x (List.mem_cons_of_mem _ hx)
  · intro x hx
    rcases List.mem_cons.1 hx with rfl | hx
    · exact hw.new ⟨b, cs, t, (0, 0)⟩ (List.mem_cons_self ..)
    · exact hw.new x (List.mem_cons_of_mem _ hx)
theorem MarkVC.at_ {b : Nat} {cs : List Value} {t : TypeId} {rest : Hp} {K : Hp → Prop} (ht : Take ⟨b, cs, t, (0, 0)⟩ hs rest) (h : K (⟨b, cs, t, (cs.length, cs.length + 1)⟩ :: rest)) : MarkVC G hs ⟨b, 0, none⟩ K :=
  ⟨Does.perm ht.perm (does_mark h)⟩
/-! ### Calls -/
structure CallVC (G : Cx) (hs : Hp) (f : Nat) (args : List Value) (K : Value → Hp → Prop) : Prop where wrap ::
  raw : ∃ R : Value → Hp → Prop, (∀ w, St G hs w → Calls G.P f args.toArray w fun e w' => ∃ v hs', e = .returned v ∧ R v hs' ∧ St G hs' w') ∧ ∀ v hs', R v hs' → K v hs'
theorem CallVC_eq (G : Cx) (hs : Hp) (f : Nat) (args : List Value) (K : Value → Hp → Prop) : CallVC G hs f args K = (∃ R : Value → Hp → Prop, (∀ w, St G hs w → Calls G.P f args.toArray w fun e w' => ∃ v hs', e = .returned v ∧ R v hs' ∧ St G hs' w') ∧ ∀ v hs', R v hs' → K v hs') := propext ⟨fun h => h.raw, fun h => ⟨h⟩⟩
/-- A call that leaves what is known, and what may be known beside, and hands back one value. -/
structure QuietVC (G : Cx) (hs : Hp) (f : Nat) (args : List Value) (K : Value → Prop) : Prop where wrap ::
  raw : ∃ v, (∀ hs1 w, St G hs1 w → (∀ w', St G hs1 w' → St G hs w') → Calls G.P f args.toArray w fun e w' => e = .returned v ∧ St G hs1 w') ∧ K v
theorem QuietVC_eq (G : Cx) (hs : Hp) (f : Nat) (args : List Value) (K : Value → Prop) : QuietVC G hs f args K = (∃ v, (∀ hs1 w, St G hs1 w → (∀ w', St G hs1 w' → St G hs w') → Calls G.P f args.toArray w fun e w' => e = .returned v ∧ St G hs1 w') ∧ K v) := propext ⟨fun h => h.raw, fun h => ⟨h⟩⟩

theorem callFunc_run {P : Program} {f : Nat} {args : Array Value} {w : World} (hc : callable P f) : (callFunc f args).run P w = .ok (.enter f args) w := by
  obtain ⟨fn, h1, h2, h3⟩ := hc
  simp only [callFunc, program, bind, Sem.bind, Sem.run, h1, h2, h3, Bool.false_eq_true, if_false]
  rfl
def targetK (v : Value) (args : List Value) (K : Nat → List Value → Prop) : Prop := match v with
  | .func fn first captured => match fn, first.toList, captured.toList with
    | .func f, [], [] => K f args
    | .func f, fi, ca => K f (fi ++ args ++ ca)
    | _, _, _ => False
  | _ => False
theorem target_run {P : Program} {o : Oper} {c : Call} {f : Operand} {w : World} {Kf : Nat → List Value → Prop} (ho : o.op = .call c) (hc : c.callee = .value f) (h : targetK (ρ f) (c.args.toList.map ρ) Kf) :
    ∃ n l, Kf n l ∧ (callable P n → (execOp ρ o).run P w = .ok (.enter n l.toArray) w) := by
  unfold targetK at h
  split at h
  · rename_i fn first captured hf
    have main : ∀ n, fn = .func n → Kf n (first.toList ++ c.args.toList.map ρ ++ captured.toList) → ∃ n l, Kf n l ∧ (callable P n → (execOp ρ o).run P w = .ok (.enter n l.toArray) w) := by
      rintro n rfl hk
      refine ⟨n, _, hk, fun hcl => ?_⟩
      have e : first ++ c.args.map ρ ++ captured = (first.toList ++ c.args.toList.map ρ ++ captured.toList).toArray := by
        apply Array.ext'; simp
      obtain ⟨dst, op, ty, pos, after, guard⟩ := o
      simp only at ho
      subst ho
      simp only [execOp, resolve, hc, hf, Deferred.ofValue, bind, Sem.bind, pure, invoke]
      rw [callFunc_run hcl, e]
    split at h
    · rename_i fn' f' h1 h2
      refine main f' rfl ?_
      rw [h1, h2]
      simpa using h
    · exact main _ rfl h
    · exact h.elim
  · exact h.elim
end
end Go.Proofs.YtnlheljpagpiiaaGreat
