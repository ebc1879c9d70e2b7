/-
  An operation, a region, code: what each comes to.
-/
import Derived.Test.YtbccpibgjjiikaaWa
set_option linter.unusedVariables false
set_option linter.unusedSimpArgs false
namespace Go.Proofs.Ytbccpibgjjiikaa
variable {G : Cx} {hs : Hp} {T : Tab} {env : Env} {ρ : Operand → Value}

def storeK (G : Cx) (T : Tab) (hs : Hp) (t : Nat) (a : Addr) (v : Value) (K : Hp → Prop) : Prop := match look T.ts t with
  | some i => match v with
    | .agg cs => Need (cs.size = i.size) (StoreVC G hs a cs.toList K)
    | .tuple _ => False
    | v => match i.size with
      | 1 => StoreVC G hs a [v] K
      | _ => False
  | none => False
theorem does_storeK {t : Nat} {a : Addr} {v : Value} {K : Hp → Prop} (hT : TabOK G.P T) (h : storeK G T hs t a v K) : Does G (Instr.storeAt t (.pointer (some a)) v) hs (fun _ => K) := by
  unfold storeK at h
  split at h
  · rename_i i hl
    have hi := hT.ts t i hl
    have main : v.cells.size = i.size → StoreVC G hs a v.cells.toList K → Does G (Instr.storeAt t (.pointer (some a)) v) hs (fun _ => K) := by
      intro hsz hst
      rw [StoreVC_eq] at hst
      unfold Instr.storeAt
      refine Does.bind (m := Instr.sureAddr (.pointer (some a))) (Does.pure ?_)
      unfold storeVar
      refine Does.bind (Does.quiet (q_sizeOf hi ?_))
      rw [if_neg (by simp [hsz])]
      exact hst
    cases v <;> dsimp only at h
    case agg cs => obtain ⟨h1, h2⟩ := Need.out h; exact main h1 h2
    all_goals
      split at h
      · rename_i h1; exact main (by simp [Value.cells, h1]) h
      · exact h.elim
  · exact h.elim

/-- The operations that write or make memory, or call. -/
def evc (G : Cx) (T : Tab) (hs : Hp) (env : Env) (op : Op) (K : Value → Hp → Prop) : Prop := match op with
  | .store t x v => evK env x fun
    | .pointer (some a) => evK env v fun val => storeK G T hs t a val fun hs' => K undef hs'
    | _ => False
  | .alloc t => match look T.ts t with
    | some i => Any fun b => K (.pointer (some ⟨b, 0, none⟩)) (⟨b, i.zero, t, (0, 0)⟩ :: hs)
    | none => False
  | .box t x => evK env x fun v => Any fun b => K (.pointer (some ⟨b, 0, none⟩)) (⟨b, cellsL v, t, (0, 0)⟩ :: hs)
  | .buildSlice t n parts => evPartsK env parts.toList fun vs => buildRowK T t n vs fun e l => Any fun b => K (.slice (some ⟨b, 0, none⟩) n n) (⟨b, l, e, (0, 0)⟩ :: hs)
  | .makeSlice t l c => evK env l fun vl => evK env c fun vc => makeK T t vl vc fun l c e z => Any fun b => K (.slice (some ⟨b, 0, none⟩) l c) (⟨b, z, e, (0, 0)⟩ :: hs)
  | .convert s d x => match look T.ts s, look T.ts d with
    | some i, some j => match i.d, j.d with
      | .str, .slice e => match look T.ts e with
        | some q => match q.d with
          | .int .u8 => evK env x fun
            | .string s => Any fun b => Any fun cap => s.size ≤ cap → K (.slice (some ⟨b, 0, none⟩) s.size cap) (⟨b, byteCells s ++ List.replicate (cap - s.size) (.int .u8 0), e, (cap, cap + 1)⟩ :: hs)
            | _ => False
          | _ => False
        | none => False
      | .slice _, .slice e => match look T.ts e with
        | some q => match q.d with
          | .int .u8 => match Nat.beq s d with
            | true => evK env x fun
              | .slice (some a) n c => MarkVC G hs a fun hs' => K (.slice (some a) n c) hs'
              | _ => False
            | false => False
          | _ => False
        | none => False
      | _, _ => pvc G T hs env op fun v => K v hs
    | _, _ => False
  | .call c => match c.callee with
    | .builtin .append => match c.argTypes.toList with
      | [t, tx] => evAllK env c.args.toList fun
        | [s, x] => AppendVC G hs t tx s x K
        | _ => False
      | _ => False
    | .builtin .copy => match c.argTypes.toList with
      | [t, tx] => evAllK env c.args.toList fun
        | [s, x] => CopyVC G hs t tx s x K
        | _ => False
      | _ => False
    | .value f => evK env f fun vf => evAllK env c.args.toList fun vs => targetK vf vs fun n l => match T.has n with
      | true => CallVC G hs n l K
      | false => False
    | _ => pvc G T hs env op fun v => K v hs
  | _ => xvc G T hs env op fun v => K v hs

/-- What the machine does at an operation, in every such world. -/
def OpDoes (G : Cx) (ρ : Operand → Value) (o : Oper) (hs : Hp) (K : Value → Hp → Prop) : Prop := ∀ w, St G hs w →
  (∃ v w' hs', (execOp ρ o).run G.P w = .ok (.value v) w' ∧ St G hs' w' ∧ K v hs') ∨
  (∃ w' hs', (execOp ρ o).run G.P w = .ok .skip w' ∧ St G hs' w' ∧ K undef hs') ∨
  (∃ f args, (execOp ρ o).run G.P w = .ok (.enter f args) w ∧ Calls G.P f args w fun e w' => ∃ v hs', e = .returned v ∧ St G hs' w' ∧ K v hs')

theorem opDoes_value {o : Oper} {m : Sem Value} {K : Value → Hp → Prop} (he : execOp ρ o = m.bind fun v => Sem.pure (.value v)) (h : Does G m hs K) : OpDoes G ρ o hs K := by
  intro w hw
  obtain ⟨v, w', hs', hr, hw', hk⟩ := h w hw
  exact .inl ⟨v, w', hs', by rw [he, run_bind _ _ hr]; rfl, hw', hk⟩
theorem opDoes_pvc {o : Oper} {K : Value → Hp → Prop} (hT : TabOK G.P T) (hρ : Agrees ρ env) (h : pvc G T hs env o.op fun v => K v hs) : OpDoes G ρ o hs K := by
  obtain ⟨dst, op, ty, pos, after, guard⟩ := o
  obtain ⟨nx, hr, v, rfl, hk⟩ := qvc_sound _ _ _ (pvc_sound (dst := dst) (ty := ty) (pos := pos) (after := after) (guard := guard) hT hρ h)
  exact fun w hw => .inl ⟨v, w, hs, hr w hw, hw, hk⟩

theorem opDoes_xvc {o : Oper} {K : Value → Hp → Prop} (hT : TabOK G.P T) (hρ : Agrees ρ env) (h : xvc G T hs env o.op fun v => K v hs) : OpDoes G ρ o hs K := by
  unfold xvc at h
  split at h
  · rename_i bop t x y yt hop
    obtain ⟨vx, hx, h⟩ := evK_some h
    split at h
    · rename_i xs
      obtain ⟨vy, hy, h⟩ := evK_some h
      split at h
      · rename_i ys
        have hcx := hρ _ _ hx
        have hcy := hρ _ _ hy
        obtain ⟨v, hr, hk⟩ := agg_run (P := G.P) (x := x) (y := y) hT.eqs h
        obtain ⟨dst, op, ty, pos, after, guard⟩ := o
        simp only at hop
        subst hop
        intro w hw
        refine .inl ⟨v, w, hs, ?_, hw, hk⟩
        simp only [execOp, hcx, hcy]
        exact run_bind _ _ (hr w)
      · exact h.elim
    · exact opDoes_pvc hT hρ (by rw [hop]; exact h)
  · exact opDoes_pvc hT hρ h

theorem any_does {K : Nat → Prop} (h : Any K) : ∀ b, K b := h.out

theorem evc_sound {o : Oper} {K : Value → Hp → Prop} (hT : TabOK G.P T) (hρ : Agrees ρ env) (h : evc G T hs env o.op K) : OpDoes G ρ o hs K := by
  have h0 := h
  unfold evc at h
  split at h
  · -- store
    rename_i t x v hop
    obtain ⟨dst, op, ty, pos, after, guard⟩ := o
    simp only at hop
    subst hop
    obtain ⟨vx, hx, h⟩ := evK_some h
    have hc := hρ _ _ hx
    split at h
    · have h1 := does_storeK hT (evK_out hρ h)
      intro w hw
      obtain ⟨_, w', hs', hr, hw', hk⟩ := h1 w hw
      refine .inr (.inl ⟨w', hs', ?_, hw', hk⟩)
      simp only [execOp, hc]
      exact (run_bind _ _ hr)
    · exact h.elim
  · rename_i t hop
    obtain ⟨dst, op, ty, pos, after, guard⟩ := o
    simp only at hop
    subst hop
    split at h
    · rename_i i hi
      exact opDoes_value rfl (does_alloc (hT.ts t i hi) h.out)
    · exact h.elim
  · rename_i t x hop
    obtain ⟨dst, op, ty, pos, after, guard⟩ := o
    simp only at hop
    subst hop
    have h1 := evK_out hρ h
    exact opDoes_value rfl (does_box h1.out)
  · rename_i t n parts hop
    obtain ⟨dst, op, ty, pos, after, guard⟩ := o
    simp only at hop
    subst hop
    have h1 := evPartsK_out hρ _ _ h
    refine opDoes_value rfl (does_buildSlice hT ?_)
    rw [Array.toList_map]
    have : ∀ (K1 K2 : Nat → List Value → Prop) l, (∀ e l, K1 e l → K2 e l) → buildRowK T t n l K1 → buildRowK T t n l K2 := by
      intro K1 K2 l hk hb
      unfold buildRowK at hb ⊢
      split at hb
      · split at hb
        · split at hb
          · obtain ⟨h1, h2⟩ := Need.out hb
            refine Need.mk h1 ?_
            have mono : ∀ (l : List (Nat × Value)) (z : List Value) (pl : Nat → (Nat → Nat → Prop) → Prop) (K1 K2 : List Value → Prop), (∀ i k k', (∀ a b, k a b → k' a b) → pl i k → pl i k') → (∀ l, K1 l → K2 l) → partsK pl K1 z l → partsK pl K2 z l := by
              intro l
              induction l with
              | nil => intro z pl K1 K2 _ hk h; exact hk _ h
              | cons p l ih =>
                obtain ⟨i, v⟩ := p
                intro z pl K1 K2 hpl hk h
                refine hpl _ _ _ (fun a b hh => ?_) h
                obtain ⟨h1, h2⟩ := Need.out hh
                refine Need.mk h1 ?_
                have lay : ∀ (vs l : List Value) (n : Nat) (K1 K2 : List Value → Prop), (∀ l, K1 l → K2 l) → layK K1 l vs n → layK K2 l vs n := by
                  intro vs
                  induction vs with
                  | nil => intro l n K1 K2 hk h; exact hk _ h
                  | cons v vs ihv =>
                    intro l n K1 K2 hk h
                    have setm : ∀ (l : List Value) (n : Nat) (v : Value) (K1 K2 : List Value → Prop), (∀ l, K1 l → K2 l) → setK l n v K1 → setK l n v K2 := by
                      intro l
                      induction l with
                      | nil => intro n v K1 K2 hk h; exact hk _ h
                      | cons x l ihl =>
                        intro n v K1 K2 hk h
                        cases n with
                        | zero => exact hk _ h
                        | succ n => exact ihl n v _ _ (fun l hh => hk _ hh) h
                    exact setm _ _ _ _ _ (fun l' hh => ihv _ _ _ _ hk hh) h
                exact lay _ _ _ _ _ (fun l' hh => ih _ _ _ _ hpl hk hh) h2
            exact mono _ _ _ _ _ (fun i k k' hh hp => hh _ _ hp) (fun l hh => hk _ _ hh) h2
          · exact hb.elim
        · exact hb.elim
      · exact hb.elim
    exact this _ _ _ (fun e l hh => hh.out) h1
  · rename_i t l c hop
    obtain ⟨dst, op, ty, pos, after, guard⟩ := o
    simp only at hop
    subst hop
    have h1 := evK_out hρ (evK_out hρ h)
    refine opDoes_value rfl (does_makeSlice hT ?_)
    unfold makeK at h1 ⊢
    split at h1
    · split at h1
      · split at h1
        · split at h1
          · obtain ⟨h2, h3⟩ := Need.out h1
            exact Need.mk h2 h3.out
          · exact h1.elim
        · exact h1.elim
      · exact h1.elim
    · exact h1.elim
  · rename_i s d x hop
    split at h
    · rename_i i j hi hj
      split at h
      · rename_i e hdi hdj
        split at h
        · rename_i q hq
          split at h
          · rename_i hqd
            obtain ⟨dst, op, ty, pos, after, guard⟩ := o
            simp only at hop
            subst hop
            obtain ⟨vx, hx, h⟩ := evK_some h
            have hc := hρ _ _ hx
            split at h
            · rename_i str
              have hu1 := look_desc hT hi
              have hu2 := look_desc hT hj
              have hu3 := look_desc hT hq
              simp only [hdi, hdj, hqd, descOk] at hu1 hu2 hu3
              refine opDoes_value (m := convert s d (ρ x)) rfl ?_
              rw [hc]
              unfold convert
              refine Does.bind (Does.quiet (q_underlying hu1 ?_))
              refine Does.bind (Does.quiet (q_underlying hu2 ?_))
              dsimp only
              refine Does.bind (Does.quiet (q_underlying hu3 ?_))
              exact does_bytes fun b cap hcap => (h.out b).out cap hcap
            · exact h.elim
          · exact h.elim
        · exact h.elim
      · rename_i e0 e hdi hdj
        split at h
        · rename_i q hq
          split at h
          · rename_i hqd
            split at h
            · rename_i hsd
              obtain rfl := Nat.eq_of_beq_eq_true hsd
              obtain ⟨dst, op, ty, pos, after, guard⟩ := o
              simp only at hop
              subst hop
              obtain ⟨vx, hx, h⟩ := evK_some h
              have hc := hρ _ _ hx
              split at h
              · rename_i a n c
                have hu1 := look_desc hT hi
                have hu2 := look_desc hT hj
                have hu3 := look_desc hT hq
                simp only [hdi, hdj, hqd, descOk] at hu1 hu2 hu3
                refine opDoes_value (m := convert s s (ρ x)) rfl ?_
                rw [hc]
                unfold convert
                refine Does.bind (Does.quiet (q_underlying hu1 ?_))
                refine Does.bind (Does.quiet (q_underlying hu2 ?_))
                dsimp only
                refine Does.bind (Does.quiet (q_underlying hu3 ?_))
                simp only [beq_self_eq_true]
                refine Does.bind (m := markStringish a) (h.raw.mono fun _ hs' hk => Does.pure hk)
              · exact h.elim
            · exact h.elim
          · exact h.elim
        · exact h.elim
      · exact opDoes_pvc hT hρ h
    · exact h.elim
  · rename_i c hop
    split at h
    · rename_i hcal
      split at h
      · rename_i t tx hty
        have h1 := evAllK_out hρ _ _ h
        split at h1
        · rename_i s x hargs
          obtain ⟨dst, op, ty, pos, after, guard⟩ := o
          simp only at hop
          subst hop
          rw [AppendVC_eq] at h1
          have e1 : c.argTypes = #[t, tx] := by apply Array.ext'; simpa using hty
          have e2 : c.args.map ρ = #[s, x] := by apply Array.ext'; simpa using hargs
          refine opDoes_value (m := Builtin.append_ c.argTypes ty (c.args.map ρ)) ?_ (by rw [e1, e2]; exact h1 ty)
          simp only [execOp, resolve, hcal, bind, Sem.bind, pure, invoke, builtin]
        · exact h1.elim
      · exact h.elim
    · rename_i hcal
      split at h
      · rename_i t tx hty
        have h1 := evAllK_out hρ _ _ h
        split at h1
        · rename_i s x hargs
          obtain ⟨dst, op, ty, pos, after, guard⟩ := o
          simp only at hop
          subst hop
          rw [CopyVC_eq] at h1
          have e1 : c.argTypes = #[t, tx] := by apply Array.ext'; simpa using hty
          have e2 : c.args.map ρ = #[s, x] := by apply Array.ext'; simpa using hargs
          refine opDoes_value (m := Builtin.copy_ c.argTypes ty (c.args.map ρ)) ?_ (by rw [e1, e2]; exact h1 ty)
          simp only [execOp, resolve, hcal, bind, Sem.bind, pure, invoke, builtin]
        · exact h1.elim
      · exact h.elim
    · rename_i f hcal
      have h1 := evAllK_out hρ _ _ (evK_out hρ h)
      intro w hw
      obtain ⟨n, l, hk, hr⟩ := target_run (P := G.P) (w := w) hop hcal h1
      split at hk
      · rename_i hlt
        have hcl := hT.fns n hlt
        rw [CallVC_eq] at hk
        obtain ⟨R, h2, h3⟩ := hk
        refine .inr (.inr ⟨n, l.toArray, hr hcl, (h2 w hw).mono ?_⟩)
        rintro e w' ⟨v, hs', he, hR, hw'⟩
        exact ⟨v, hs', he, hw', h3 v hs' hR⟩
      · exact hk.elim
    · exact opDoes_pvc hT hρ h
  · exact opDoes_xvc hT hρ h

end Go.Proofs.Ytbccpibgjjiikaa
