/-
  An operation, a region, code: what each comes to. Regions and code: what each comes to. A region whose order is open: what is asked of it; operations that only read. A region whose order is open: one walk by a plan serves every order.
-/
import Derived.Test.YtnlheljpagpiiaaGreatMb
import Derived.OrdersIn
namespace Go.Proofs.YtnlheljpagpiiaaGreat
section
set_option linter.unusedVariables false
set_option linter.unusedSimpArgs false
variable {G : Cx} {hs : Hp} {T : Tab} {env : Env} {ρ : Operand → Value}

def storeK (G : Cx) (T : Tab) (hs : Hp) (t : Nat) (a : Addr) (v : Value) (K : Hp → Prop) : Prop := match look T.ts t with
  | some i => match v with
    | .agg cs => Need (cs.size = i.size) (StoreVC G hs a cs.toList K)
    | .tuple _ => False
    | v => match i.size with
      | 1 => StoreVC G hs a [v] K
      | _ => False
  | none => False
theorem does_storeK {t : Nat} {a : Addr} {v : Value} {K : Hp → Prop} (hT : TabOK G.P T) (h : storeK G T hs t a v K) : Does G (Instr.storeAt t (.pointer (some a)) v) hs (fun _ => K) := by
  unfold storeK at h
  split at h
  · rename_i i hl
    have hi := hT.ts t i hl
    have main : v.cells.size = i.size → StoreVC G hs a v.cells.toList K → Does G (Instr.storeAt t (.pointer (some a)) v) hs (fun _ => K) := by
      intro hsz hst
      rw [StoreVC_eq] at hst
      unfold Instr.storeAt
      refine Does.bind (m := Instr.sureAddr (.pointer (some a))) (Does.pure ?_)
      unfold storeVar
      refine Does.bind (Does.quiet (q_sizeOf hi ?_))
      rw [if_neg (by simp [hsz])]
      exact hst
    cases v <;> dsimp only at h
    case agg cs => obtain ⟨h1, h2⟩ := Need.out h; exact main h1 h2
    all_goals
      split at h
      · rename_i h1; exact main (by simp [Value.cells, h1]) h
      · exact h.elim
  · exact h.elim

/-- The operations that write or make memory, or call. -/
def evc (G : Cx) (T : Tab) (hs : Hp) (env : Env) (op : Op) (K : Value → Hp → Prop) : Prop := match op with
  | .store t x v => evK env x fun
    | .pointer (some a) => evK env v fun val => storeK G T hs t a val fun hs' => K undef hs'
    | _ => False
  | .alloc t => match look T.ts t with
    | some i => Any fun b => K (.pointer (some ⟨b, 0, none⟩)) (⟨b, i.zero, t, (0, 0)⟩ :: hs)
    | none => False
  | .box t x => evK env x fun v => Any fun b => K (.pointer (some ⟨b, 0, none⟩)) (⟨b, cellsL v, t, (0, 0)⟩ :: hs)
  | .buildSlice t n parts => evPartsK env parts.toList fun vs => buildRowK T t n vs fun e l => Any fun b => K (.slice (some ⟨b, 0, none⟩) n n) (⟨b, l, e, (0, 0)⟩ :: hs)
  | .makeSlice t l c => evK env l fun vl => evK env c fun vc => makeK T t vl vc fun l c e z => Any fun b => K (.slice (some ⟨b, 0, none⟩) l c) (⟨b, z, e, (0, 0)⟩ :: hs)
  | .convert s d x => match look T.ts s, look T.ts d with
    | some i, some j => match i.d, j.d with
      | .str, .slice e => match look T.ts e with
        | some q => match q.d with
          | .int .u8 => evK env x fun
            | .string s => Any fun b => Any fun cap => s.size ≤ cap → K (.slice (some ⟨b, 0, none⟩) s.size cap) (⟨b, byteCells s ++ List.replicate (cap - s.size) (.int .u8 0), e, (cap, cap + 1)⟩ :: hs)
            | _ => False
          | _ => False
        | none => False
      | .slice _, .slice e => match look T.ts e with
        | some q => match q.d with
          | .int .u8 => match Nat.beq s d with
            | true => evK env x fun
              | .slice (some a) n c => MarkVC G hs a fun hs' => K (.slice (some a) n c) hs'
              | _ => False
            | false => False
          | _ => False
        | none => False
      | _, _ => pvc G T hs env op fun v => K v hs
    | _, _ => False
  | .call c => match c.callee with
    | .builtin .append => match c.argTypes.toList with
      | [t, tx] => evAllK env c.args.toList fun
        | [s, x] => AppendVC G hs t tx s x K
        | _ => False
      | _ => False
    | .builtin .copy => match c.argTypes.toList with
      | [t, tx] => evAllK env c.args.toList fun
        | [s, x] => CopyVC G hs t tx s x K
        | _ => False
      | _ => False
    | .value f => evK env f fun vf => evAllK env c.args.toList fun vs => targetK vf vs fun n l => match T.has n with
      | true => CallVC G hs n l K
      | false => False
    | _ => pvc G T hs env op fun v => K v hs
  | _ => xvc G T hs env op fun v => K v hs

/-- What the machine does at an operation, in every such world. -/
def OpDoes (G : Cx) (ρ : Operand → Value) (o : Oper) (hs : Hp) (K : Value → Hp → Prop) : Prop := ∀ w, St G hs w →
  (∃ v w' hs', (execOp ρ o).run G.P w = .ok (.value v) w' ∧ St G hs' w' ∧ K v hs') ∨
  (∃ w' hs', (execOp ρ o).run G.P w = .ok .skip w' ∧ St G hs' w' ∧ K undef hs') ∨
  (∃ f args, (execOp ρ o).run G.P w = .ok (.enter f args) w ∧ Calls G.P f args w fun e w' => ∃ v hs', e = .returned v ∧ St G hs' w' ∧ K v hs')

theorem opDoes_value {o : Oper} {m : Sem Value} {K : Value → Hp → Prop} (he : execOp ρ o = m.bind fun v => Sem.pure (.value v)) (h : Does G m hs K) : OpDoes G ρ o hs K := by
  intro w hw
  obtain ⟨v, w', hs', hr, hw', hk⟩ := h w hw
  exact .inl ⟨v, w', hs', by rw [he, run_bind _ _ hr]; rfl, hw', hk⟩
theorem opDoes_pvc {o : Oper} {K : Value → Hp → Prop} (hT : TabOK G.P T) (hρ : Agrees ρ env) (h : pvc G T hs env o.op fun v => K v hs) : OpDoes G ρ o hs K := by
  obtain ⟨dst, op, ty, pos, after, guard⟩ := o
  obtain ⟨nx, hr, v, rfl, hk⟩ := qvc_sound _ _ _ (pvc_sound (dst := dst) (ty := ty) (pos := pos) (after := after) (guard := guard) hT hρ h)
  exact fun w hw => .inl ⟨v, w, hs, hr w hw, hw, hk⟩

theorem opDoes_xvc {o : Oper} {K : Value → Hp → Prop} (hT : TabOK G.P T) (hρ : Agrees ρ env) (h : xvc G T hs env o.op fun v => K v hs) : OpDoes G ρ o hs K := by
  unfold xvc at h
  split at h
  · rename_i bop t x y yt hop
    obtain ⟨vx, hx, h⟩ := evK_some h
    split at h
    · rename_i xs
      obtain ⟨vy, hy, h⟩ := evK_some h
      split at h
      · rename_i ys
        have hcx := hρ _ _ hx
        have hcy := hρ _ _ hy
        obtain ⟨v, hr, hk⟩ := agg_run (P := G.P) (x := x) (y := y) hT.eqs h
        obtain ⟨dst, op, ty, pos, after, guard⟩ := o
        simp only at hop
        subst hop
        intro w hw
        refine .inl ⟨v, w, hs, ?_, hw, hk⟩
        simp only [execOp, hcx, hcy]
        exact run_bind _ _ (hr w)
      · exact h.elim
    · exact opDoes_pvc hT hρ (by rw [hop]; exact h)
  · exact opDoes_pvc hT hρ h

theorem any_does {K : Nat → Prop} (h : Any K) : ∀ b, K b := h.out

theorem evc_sound {o : Oper} {K : Value → Hp → Prop} (hT : TabOK G.P T) (hρ : Agrees ρ env) (h : evc G T hs env o.op K) : OpDoes G ρ o hs K := by
  have h0 := h
  unfold evc at h
  split at h
  · -- store
    rename_i t x v hop
    obtain ⟨dst, op, ty, pos, after, guard⟩ := o
    simp only at hop
    subst hop
    obtain ⟨vx, hx, h⟩ := evK_some h
    have hc := hρ _ _ hx
    split at h
    · have h1 := does_storeK hT (evK_out hρ h)
      intro w hw
      obtain ⟨_, w', hs', hr, hw', hk⟩ := h1 w hw
      refine .inr (.inl ⟨w', hs', ?_, hw', hk⟩)
      simp only [execOp, hc]
      exact (run_bind _ _ hr)
    · exact h.elim
  · rename_i t hop
    obtain ⟨dst, op, ty, pos, after, guard⟩ := o
    simp only at hop
    subst hop
    split at h
    · rename_i i hi
      exact opDoes_value rfl (does_alloc (hT.ts t i hi) h.out)
    · exact h.elim
  · rename_i t x hop
    obtain ⟨dst, op, ty, pos, after, guard⟩ := o
    simp only at hop
    subst hop
    have h1 := evK_out hρ h
    exact opDoes_value rfl (does_box h1.out)
  · rename_i t n parts hop
    obtain ⟨dst, op, ty, pos, after, guard⟩ := o
    simp only at hop
    subst hop
    have h1 := evPartsK_out hρ _ _ h
    refine opDoes_value rfl (does_buildSlice hT ?_)
    rw [Array.toList_map]
    have : ∀ (K1 K2 : Nat → List Value → Prop) l, (∀ e l, K1 e l → K2 e l) → buildRowK T t n l K1 → buildRowK T t n l K2 := by
      intro K1 K2 l hk hb
      unfold buildRowK at hb ⊢
      split at hb
      · split at hb
        · split at hb
          · obtain ⟨h1, h2⟩ := Need.out hb
            refine Need.mk h1 ?_
            have mono : ∀ (l : List (Nat × Value)) (z : List Value) (pl : Nat → (Nat → Nat → Prop) → Prop) (K1 K2 : List Value → Prop), (∀ i k k', (∀ a b, k a b → k' a b) → pl i k → pl i k') → (∀ l, K1 l → K2 l) → partsK pl K1 z l → partsK pl K2 z l := by
              intro l
              induction l with
              | nil => intro z pl K1 K2 _ hk h; exact hk _ h
              | cons p l ih =>
                obtain ⟨i, v⟩ := p
                intro z pl K1 K2 hpl hk h
                refine hpl _ _ _ (fun a b hh => ?_) h
                obtain ⟨h1, h2⟩ := Need.out hh
                refine Need.mk h1 ?_
                have lay : ∀ (vs l : List Value) (n : Nat) (K1 K2 : List Value → Prop), (∀ l, K1 l → K2 l) → layK K1 l vs n → layK K2 l vs n := by
                  intro vs
                  induction vs with
                  | nil => intro l n K1 K2 hk h; exact hk _ h
                  | cons v vs ihv =>
                    intro l n K1 K2 hk h
                    have setm : ∀ (l : List Value) (n : Nat) (v : Value) (K1 K2 : List Value → Prop), (∀ l, K1 l → K2 l) → setK l n v K1 → setK l n v K2 := by
                      intro l
                      induction l with
                      | nil => intro n v K1 K2 hk h; exact hk _ h
                      | cons x l ihl =>
                        intro n v K1 K2 hk h
                        cases n with
                        | zero => exact hk _ h
                        | succ n => exact ihl n v _ _ (fun l hh => hk _ hh) h
                    exact setm _ _ _ _ _ (fun l' hh => ihv _ _ _ _ hk hh) h
                exact lay _ _ _ _ _ (fun l' hh => ih _ _ _ _ hpl hk hh) h2
            exact mono _ _ _ _ _ (fun i k k' hh hp => hh _ _ hp) (fun l hh => hk _ _ hh) h2
          · exact hb.elim
        · exact hb.elim
      · exact hb.elim
    exact this _ _ _ (fun e l hh => hh.out) h1
  · rename_i t l c hop
    obtain ⟨dst, op, ty, pos, after, guard⟩ := o
    simp only at hop
    subst hop
    have h1 := evK_out hρ (evK_out hρ h)
    refine opDoes_value rfl (does_makeSlice hT ?_)
    unfold makeK at h1 ⊢
    split at h1
    · split at h1
      · split at h1
        · split at h1
          · obtain ⟨h2, h3⟩ := Need.out h1
            exact Need.mk h2 h3.out
          · exact h1.elim
        · exact h1.elim
      · exact h1.elim
    · exact h1.elim
  · rename_i s d x hop
    split at h
    · rename_i i j hi hj
      split at h
      · rename_i e hdi hdj
        split at h
        · rename_i q hq
          split at h
          · rename_i hqd
            obtain ⟨dst, op, ty, pos, after, guard⟩ := o
            simp only at hop
            subst hop
            obtain ⟨vx, hx, h⟩ := evK_some h
            have hc := hρ _ _ hx
            split at h
            · rename_i str
              have hu1 := look_desc hT hi
              have hu2 := look_desc hT hj
              have hu3 := look_desc hT hq
              simp only [hdi, hdj, hqd, descOk] at hu1 hu2 hu3
              refine opDoes_value (m := convert s d (ρ x)) rfl ?_
              rw [hc]
              unfold convert
              refine Does.bind (Does.quiet (q_underlying hu1 ?_))
              refine Does.bind (Does.quiet (q_underlying hu2 ?_))
              dsimp only
              refine Does.bind (Does.quiet (q_underlying hu3 ?_))
              exact does_bytes fun b cap hcap => (h.out b).out cap hcap
            · exact h.elim
          · exact h.elim
        · exact h.elim
      · rename_i e0 e hdi hdj
        split at h
        · rename_i q hq
          split at h
          · rename_i hqd
            split at h
            · rename_i hsd
              obtain rfl := Nat.eq_of_beq_eq_true hsd
              obtain ⟨dst, op, ty, pos, after, guard⟩ := o
              simp only at hop
              subst hop
              obtain ⟨vx, hx, h⟩ := evK_some h
              have hc := hρ _ _ hx
              split at h
              · rename_i a n c
                have hu1 := look_desc hT hi
                have hu2 := look_desc hT hj
                have hu3 := look_desc hT hq
                simp only [hdi, hdj, hqd, descOk] at hu1 hu2 hu3
                refine opDoes_value (m := convert s s (ρ x)) rfl ?_
                rw [hc]
                unfold convert
                refine Does.bind (Does.quiet (q_underlying hu1 ?_))
                refine Does.bind (Does.quiet (q_underlying hu2 ?_))
                dsimp only
                refine Does.bind (Does.quiet (q_underlying hu3 ?_))
                simp only [beq_self_eq_true]
                refine Does.bind (m := markStringish a) (h.raw.mono fun _ hs' hk => Does.pure hk)
              · exact h.elim
            · exact h.elim
          · exact h.elim
        · exact h.elim
      · exact opDoes_pvc hT hρ h
    · exact h.elim
  · rename_i c hop
    split at h
    · rename_i hcal
      split at h
      · rename_i t tx hty
        have h1 := evAllK_out hρ _ _ h
        split at h1
        · rename_i s x hargs
          obtain ⟨dst, op, ty, pos, after, guard⟩ := o
          simp only at hop
          subst hop
          rw [AppendVC_eq] at h1
          have e1 : c.argTypes = #[t, tx] := by apply Array.ext'; simpa using hty
          have e2 : c.args.map ρ = #[s, x] := by apply Array.ext'; simpa using hargs
          refine opDoes_value (m := Builtin.append_ c.argTypes ty (c.args.map ρ)) ?_ (by rw [e1, e2]; exact h1 ty)
          simp only [execOp, resolve, hcal, bind, Sem.bind, pure, invoke, builtin]
        · exact h1.elim
      · exact h.elim
    · rename_i hcal
      split at h
      · rename_i t tx hty
        have h1 := evAllK_out hρ _ _ h
        split at h1
        · rename_i s x hargs
          obtain ⟨dst, op, ty, pos, after, guard⟩ := o
          simp only at hop
          subst hop
          rw [CopyVC_eq] at h1
          have e1 : c.argTypes = #[t, tx] := by apply Array.ext'; simpa using hty
          have e2 : c.args.map ρ = #[s, x] := by apply Array.ext'; simpa using hargs
          refine opDoes_value (m := Builtin.copy_ c.argTypes ty (c.args.map ρ)) ?_ (by rw [e1, e2]; exact h1 ty)
          simp only [execOp, resolve, hcal, bind, Sem.bind, pure, invoke, builtin]
        · exact h1.elim
      · exact h.elim
    · rename_i f hcal
      have h1 := evAllK_out hρ _ _ (evK_out hρ h)
      intro w hw
      obtain ⟨n, l, hk, hr⟩ := target_run (P := G.P) (w := w) hop hcal h1
      split at hk
      · rename_i hlt
        have hcl := hT.fns n hlt
        rw [CallVC_eq] at hk
        obtain ⟨R, h2, h3⟩ := hk
        refine .inr (.inr ⟨n, l.toArray, hr hcl, (h2 w hw).mono ?_⟩)
        rintro e w' ⟨v, hs', he, hR, hw'⟩
        exact ⟨v, hs', he, hw', h3 v hs' hR⟩
      · exact hk.elim
    · exact opDoes_pvc hT hρ h
  · exact opDoes_xvc hT hρ h
end
section
set_option linter.unusedVariables false
set_option linter.unusedSimpArgs false
variable {G : Cx} {T : Tab} {r : Option Nat} {ds : List Deferred}

/-! ### 1. The frame -/
structure Fits (ds : List Deferred) (N : Nat) (env : Env) (a : Act) : Prop where
  size : a.tmps.size = N
  defers : a.defers = ds
  has : ∀ i v, lk env i = some v → a.tmps[i]? = some v
theorem Fits.agrees {N : Nat} {env : Env} {a : Act} (h : Fits ds N env a) : Agrees a.eval env := by
  intro x v hx
  cases x with
  | tmp i =>
    have := h.has i v hx
    simp only [Act.eval, Array.getD_eq_getD_getElem?, this, Option.getD_some]
  | const v' => exact Option.some.inj hx
  | global g => exact Option.some.inj hx
  | func f => exact Option.some.inj hx
theorem nbeq {a b : Nat} (h : ¬ b = a) : Nat.beq a b = false := by
  cases hb : Nat.beq a b with
  | false => rfl
  | true => exact absurd (Nat.eq_of_beq_eq_true hb).symm h
def putK (d : Nat) (v : Value) : Env → (Env → Prop) → Prop
  | [], K => K [(d, v)]
  | (j, u) :: r, K => match Nat.beq j d with
    | true => K ((j, v) :: r)
    | false => putK d v r fun r' => K ((j, u) :: r')
theorem putK_out {d : Nat} {v : Value} : ∀ (env : Env) (K : Env → Prop), putK d v env K → ∃ env', K env' ∧ ∀ i, lk env' i = if i = d then some v else lk env i
  | [], K, h => ⟨_, h, fun i => by
      simp only [lk]
      by_cases hd : i = d
      · subst hd; simp [Nat.beq_refl]
      · rw [if_neg hd]
        rw [nbeq hd]⟩
  | (j, u) :: r, K, h => by
    unfold putK at h
    split at h
    · rename_i hb
      have hj : j = d := Nat.eq_of_beq_eq_true hb
      subst hj
      refine ⟨_, h, fun i => ?_⟩
      simp only [lk]
      by_cases hi : i = j
      · subst hi; simp [Nat.beq_refl]
      · rw [if_neg hi]
        rw [nbeq hi]
    · rename_i hb
      obtain ⟨env', hk, hl⟩ := putK_out r _ h
      refine ⟨_, hk, fun i => ?_⟩
      simp only [lk]
      by_cases hi : i = d
      · subst hi
        rw [hb, hl, if_pos rfl]
      · rw [if_neg hi, hl, if_neg hi]
theorem Fits.put {N : Nat} {env env' : Env} {a : Act} {d : Nat} {v : Value} (h : Fits ds N env a) (hd : d < N) (hl : ∀ i, lk env' i = if i = d then some v else lk env i) : Fits ds N env' (a.put (some d) v) := by
  refine ⟨by simp [Act.put, h.size], h.defers, fun i u hi => ?_⟩
  rw [hl] at hi
  show (a.tmps.setIfInBounds d v)[i]? = some u
  by_cases hid : i = d
  · subst hid
    rw [if_pos rfl] at hi
    rw [Array.getElem?_setIfInBounds_self_of_lt (by rw [h.size]; exact hd)]
    exact hi
  · rw [if_neg hid] at hi
    rw [Array.getElem?_setIfInBounds_ne (fun h => hid h.symm)]
    exact h.has i u hi
def dstK (N : Nat) (dst : Option Nat) (v : Value) (env : Env) (K : Env → Prop) : Prop := match dst with
  | none => K env
  | some d => match Nat.blt d N with
    | true => putK d v env K
    | false => False
theorem dstK_out {N : Nat} {dst : Option Nat} {v : Value} {env : Env} {K : Env → Prop} {a : Act} (hf : Fits ds N env a) (h : dstK N dst v env K) : ∃ env', K env' ∧ Fits ds N env' (a.put dst v) := by
  unfold dstK at h
  split at h
  · exact ⟨_, h, hf⟩
  · split at h
    · rename_i hlt
      obtain ⟨env', hk, hl⟩ := putK_out _ _ h
      exact ⟨env', hk, hf.put (by simpa using hlt) hl⟩
    · exact h.elim

/-! ### 2. Guards -/
def onth : List Oper → Nat → Option Oper
  | [], _ => none
  | o :: _, 0 => some o
  | _ :: r, n + 1 => onth r n
theorem onth_eq : ∀ (l : List Oper) (n : Nat), l[n]? = onth l n
  | [], _ => rfl
  | _ :: _, 0 => rfl
  | _ :: r, n + 1 => by simpa [onth] using onth_eq r n
def sameB : Bool → Bool → Bool
  | true, true => true
  | false, false => true
  | _, _ => false
def guardK (all : List Oper) (env : Env) (g : Option (Nat × Bool)) (run skip : Prop) : Prop := match g with
  | none => run
  | some (j, want) => match onth all j with
    | some o => match o.dst with
      | some d => match lk env d with
        | some (.bool b) => match sameB b want with
          | true => run
          | false => skip
        | some (.tuple _) => skip
        | _ => False
      | none => False
    | none => False
theorem guardK_out {all : List Oper} {env : Env} {o : Oper} {run skip : Prop} {N : Nat} {a : Act} (hf : Fits ds N env a) (h : guardK all env o.guard run skip) :
    (Region.wanted o (yielded all.toArray a.tmps) = true ∧ run) ∨ (Region.wanted o (yielded all.toArray a.tmps) = false ∧ skip) := by
  unfold guardK at h
  unfold Region.wanted
  split at h
  · rename_i hg; rw [hg]; exact .inl ⟨rfl, h⟩
  · rename_i j want hg
    rw [hg]
    dsimp only
    split at h
    · rename_i o' ho
      split at h
      · rename_i d hd
        have hy : ∀ v, lk env d = some v → yielded all.toArray a.tmps j = (match v with | .bool b => some b | _ => none) := by
          intro v hv
          unfold yielded
          rw [List.getElem?_toArray, onth_eq, ho]
          simp only [Option.bind_some, hd, hf.has d v hv]
          cases v <;> rfl
        split at h
        · rename_i b hb
          have h1 := hy _ hb
          dsimp only at h1
          rw [h1]
          split at h
          · rename_i hs; left; refine ⟨?_, h⟩; cases b <;> cases want <;> simp_all [sameB]
          · rename_i hs; right; refine ⟨?_, h⟩; cases b <;> cases want <;> simp_all [sameB]
        · rename_i v hb
          have h1 := hy _ hb
          dsimp only at h1
          rw [h1]
          exact .inr ⟨rfl, h⟩
        · exact h.elim
      · exact h.elim
    · exact h.elim

/-! ### 3. A region in its order -/
def opsVC (G : Cx) (T : Tab) (N : Nat) (all : List Oper) (l : List Oper) : Env → Hp → (Env → Hp → Prop) → Prop :=
  List.rec (motive := fun _ => Env → Hp → (Env → Hp → Prop) → Prop) (fun env hs K => K env hs) (fun o _ ih env hs K => guardK all env o.guard
      (evc G T hs env o.op fun v hs' => dstK N o.dst v env fun env' => ih env' hs' K)
      (dstK N o.dst undef env fun env' => ih env' hs K)) l

/-- Frames of functions, and of a loop's rounds. -/
def FR (r : Option Nat) : Fence := { fn := fun _ => True, depth := none, alive := false, round := r }
theorem FR_none : FR none = Fence.wide := rfl
theorem callsIn_FR {P : Program} {f : FuncId} {args : Array Value} {w : World} {R : Ending → World → Prop} {n : Nat} (h : Calls P f args w R) : CallsIn (FR r) n P f args w R :=
  show CallsIn Fence.wide n P f args w R from callsIn_wide.2 h
theorem exec_defer {ρ : Operand → Value} {o : Oper} {c : Call} (h : o.op = .defer c) {P : Program} {w w' : World} {x : Next} (hr : (execOp ρ o).run P w = .ok x w') : ∃ d, x = .defer d := by
  simp only [execOp, h] at hr
  have : ∀ (m : Sem Deferred), (m >>= fun d => pure (Next.defer d)).run P w = .ok x w' → ∃ d, x = .defer d := by
    intro m hm
    rw [Sem.run_bind] at hm
    cases hx : m.run P w with
    | ok d w2 => rw [hx] at hm; simp only [Result.andThen, Sem.run] at hm; cases hm; exact ⟨_, rfl⟩
    | halt a w2 => rw [hx] at hm; simp only [Result.andThen] at hm; cases hm
  exact this _ hr
theorem no_defer {o : Oper} {a : Act} {w : World} {hs : Hp} {K : Value → Hp → Prop} (h : OpDoes G a.eval o hs K) (hw : St G hs w) : ∀ c, o.op ≠ .defer c := by
  intro c hc
  rcases h w hw with ⟨v, w', hs', hr, _⟩ | ⟨w', hs', hr, _⟩ | ⟨f, args, hr, _⟩ <;> (obtain ⟨d, hd⟩ := exec_defer hc hr; cases hd)
theorem op_wp {o : Oper} {a : Act} {w : World} {hs : Hp} {K : Value → Hp → Prop} {next : Act → World → Prop} {Q : Exit → Act → World → Prop}
    (h : OpDoes G a.eval o hs K) (hw : St G hs w) (hn : ∀ v hs' w', K v hs' → St G hs' w' → next (a.put o.dst v) w') : o.wpIn (FR r) 0 G.P a w next Q := by
  unfold Oper.wpIn
  refine ⟨fun _ _ => trivial, ?_⟩
  rw [Oper.semAt_eq _ _ _ (no_defer h hw)]
  rcases h w hw with ⟨v, w', hs', hr, hw', hk⟩ | ⟨w', hs', hr, hw', hk⟩ | ⟨f, args, hr, hc⟩
  · rw [hr]; exact hn v hs' w' hk hw'
  · rw [hr]; exact hn undef hs' w' hk hw'
  · rw [hr]
    rw [Oper.uponIn_enter]
    refine ⟨fun h => by simp [FR] at h, (callsIn_FR hc).mono ?_⟩
    rintro e w' ⟨v, hs', rfl, hw', hk⟩
    exact hn v hs' w' hk hw'

theorem opsVC_sound (hT : TabOK G.P T) {N : Nat} (all : List Oper) {Q : Exit → Act → World → Prop} {K : Env → Hp → Prop}
    (hK : ∀ env hs a w, K env hs → Fits ds N env a → St G hs w → Q .normal a w) :
    ∀ (l : List Oper) (k : Nat) (env : Env) (hs : Hp) (a : Act) (w : World), (∀ i, l[i]? = all[k + i]?) → opsVC G T N all l env hs K → Fits ds N env a → St G hs w →
      wpOpsIn (FR r) 0 G.P all.toArray Q (List.range' k l.length) a w
  | [], k, env, hs, a, w, _, h, hf, hw => hK _ _ _ _ h hf hw
  | o :: q, k, env, hs, a, w, hl, h, hf, hw => by
    have h0 : all.toArray[k]? = some o := by rw [List.getElem?_toArray]; simpa using (hl 0).symm
    have hr : ∀ i, q[i]? = all[k + 1 + i]? := fun i => by have := hl (i + 1); simpa [Nat.add_assoc, Nat.add_comm 1 i] using this
    simp only [List.length_cons, List.range'_succ]
    rw [wpOpsIn_cons]
    unfold wpOpIn
    rw [h0]
    dsimp only
    rcases guardK_out hf h with ⟨hwt, hrun⟩ | ⟨hwt, hskip⟩
    · rw [if_pos hwt]
      refine op_wp (evc_sound hT hf.agrees hrun) hw ?_
      intro v hs' w' hk hw'
      obtain ⟨env', hk', hf'⟩ := dstK_out hf hk
      exact opsVC_sound hT all hK q (k + 1) env' hs' _ w' hr hk' hf' hw'
    · rw [if_neg (by rw [hwt]; exact Bool.false_ne_true)]
      obtain ⟨env', hk', hf'⟩ := dstK_out hf hskip
      exact ⟨fun _ _ => trivial, opsVC_sound hT all hK q (k + 1) env' hs _ w hr hk' hf' hw⟩
theorem region_sound (hT : TabOK G.P T) {N id : Nat} {ops : Array Oper} {Q : Exit → Act → World → Prop} {K : Env → Hp → Prop} {env : Env} {hs : Hp} {a : Act} {w : World}
    (hK : ∀ env hs a w, K env hs → Fits ds N env a → St G hs w → Q .normal a w) (h : opsVC G T N ops.toList ops.toList env hs K) (hf : Fits ds N env a) (hw : St G hs w) :
    (Code.region id ops false).wpIn (FR r) 0 G.P Q a w := by
  refine wpIn_region ?_
  have := opsVC_sound (r := r) hT ops.toList (Q := Q) hK ops.toList 0 env hs a w (fun i => by rw [Nat.zero_add]) h hf hw
  rwa [Array.toArray_toList, Array.length_toList, ← List.range_eq_range'] at this
end
section
set_option linter.unusedVariables false
set_option linter.unusedSimpArgs false
variable {G : Cx} {T : Tab}

/-- Operations whose answer hangs on the frame alone. -/
def pureOp : Op → Bool
  | .move _ | .assign _ | .pick .. | .binOp .. | .unOp .. | .nilCheck _ | .fieldAddr .. | .indexAddr .. | .index .. | .extract .. | .slice .. | .sliceToArrayPointer .. | .makeFunc .. | .build .. | .field .. | .makeInterface .. => true
  | .call c => match c.callee with
    | .builtin _ => true
    | _ => false
  | _ => false
theorem pvc_pure {hs : Hp} {env : Env} {op : Op} {K : Value → Prop} (hp : pureOp op = true) (h : pvc G T hs env op K) (G' : Cx) (hs' : Hp) : pvc G' T hs' env op K := by
  cases op <;> simp only [pureOp] at hp <;> first | exact h | (exact absurd hp (by decide))

def edgeB (o : Oper) (i : Nat) : Bool := o.after.toList.any fun e => Region.binds .any e && e.on == i
def bindsOf (o : Oper) : List Nat := (o.after.toList.filter fun e => Region.binds .any e).map (·.on)
/-- What the operations must bear: each edge leads back; each slot is written once, and what looks at it waits for it. -/
def wellAt (all : List Oper) (j : Nat) (o : Oper) : Bool :=
  ((bindsOf o).all fun i => decide (i < j)) &&
  (match o.dst with | some d => (all.drop (j + 1)).all fun x => x.dst != some d | none => true) &&
  ((o.looksAt all.toArray).all fun t => all.zipIdx.all fun (x, i) => x.dst != some t || (bindsOf o).contains i || (bindsOf x).contains j || i == j) &&
  (match o.op with | .select .. => false | _ => true)
def wellB (all : List Oper) : Bool := all.zipIdx.all fun (o, j) => wellAt all j o
structure Well (all : List Oper) (j : Nat) (o : Oper) : Prop where
  back : ∀ i ∈ bindsOf o, i < j
  once : ∀ d, o.dst = some d → ∀ i x, j < i → all[i]? = some x → x.dst ≠ some d
  waits : ∀ t ∈ o.looksAt all.toArray, ∀ (i : Nat) (x : Oper), all[i]? = some x → x.dst = some t → i ∈ bindsOf o ∨ j ∈ bindsOf x ∨ i = j
  sel : ∀ cs b, o.op ≠ .select cs b
theorem wellB_spec {all : List Oper} (h : wellB all = true) {j : Nat} {o : Oper} (ho : all[j]? = some o) : Well all j o := by
  have h1 : wellAt all j o = true := by
    unfold wellB at h
    rw [List.all_eq_true] at h
    exact h (o, j) (List.mem_zipIdx_iff_getElem?.2 ho)
  unfold wellAt at h1
  simp only [Bool.and_eq_true] at h1
  obtain ⟨⟨⟨a1, a2⟩, a3⟩, a4⟩ := h1
  refine ⟨?_, ?_, ?_, ?_⟩
  · intro i hi
    simpa using List.all_eq_true.1 a1 i hi
  · intro d hd i x hi hx
    rw [hd] at a2
    have := List.all_eq_true.1 a2 x (by
      rw [List.mem_iff_getElem?]
      exact ⟨i - (j + 1), by rw [List.getElem?_drop, show j + 1 + (i - (j + 1)) = i by omega]; exact hx⟩)
    simpa using this
  · intro t ht i x hx hd
    have := List.all_eq_true.1 a3 t ht
    have h2 := List.all_eq_true.1 this (x, i) (List.mem_zipIdx_iff_getElem?.2 hx)
    simpa [hd, or_assoc] using h2
  · intro cs b hsel
    rw [hsel] at a4
    exact absurd a4 (by simp)
theorem mem_binds {o : Oper} {i : Nat} : i ∈ bindsOf o ↔ ∃ e ∈ o.after, Region.binds .any e = true ∧ e.on = i := by
  simp only [bindsOf, List.mem_map, List.mem_filter, Array.mem_toList_iff]
  constructor
  · rintro ⟨e, ⟨h1, h2⟩, h3⟩; exact ⟨e, h1, h2, h3⟩
  · rintro ⟨e, h1, h2, h3⟩; exact ⟨e, ⟨h1, h2⟩, h3⟩
/-- An order for the reckoning: what only reads as soon as it may come; what writes where nothing else may. -/
inductive Plan where
  | done
  | q (j : Nat) (r : Plan)
  | one (i : Nat) (safe : Bool) (r : Plan)
  | two (i : Nat) (r : Plan) (j : Nat) (s : Plan)
def readyB (V : List Bool) (o : Oper) : Bool := (bindsOf o).all fun i => V.getD i false
def openB (all : List Oper) (V : List Bool) (i : Nat) : Bool := match onth all i with
  | some o => !V.getD i true && readyB V o
  | none => false
def onlyB (all : List Oper) (V : List Bool) (l : List Nat) : Bool := all.zipIdx.all fun (o, k) => V.getD k true || !readyB V o || l.contains k
/-- All that an operation waits for, by whatever way. -/
def ancs (all : List Oper) : Nat → List Nat → List Nat
  | 0, A => A
  | k + 1, A => ancs all k (match A.contains k with
    | true => (match onth all k with | some o => A ++ bindsOf o | none => A)
    | false => A)
def safeB (all : List Oper) (V : List Bool) (i : Nat) : Bool := match onth all i with
  | some o => let A := ancs all all.length (bindsOf o); all.zipIdx.all fun (x, k) => !V.getD k true || pureOp x.op || A.contains k
  | none => false
/-- Whatever looks at what an operation writes waits for it. -/
def antiB (all : List Oper) (j : Nat) : Bool := match onth all j with
  | some o => all.all fun x => (bindsOf x).contains j || (x.looksAt all.toArray).all fun t => o.dst != some t
  | none => false
def Anti (all : List Oper) (j : Nat) (o : Oper) : Prop := ∀ (k : Nat) (x : Oper), all[k]? = some x → ∀ t ∈ x.looksAt all.toArray, o.dst = some t → j ∈ bindsOf x
theorem anti_spec {all : List Oper} {j : Nat} {o : Oper} (h : antiB all j = true) (ho : all[j]? = some o) : Anti all j o := by
  intro k x hx t ht hd
  unfold antiB at h
  rw [← onth_eq, ho] at h
  have := List.all_eq_true.1 h x (List.mem_of_getElem? hx)
  simp only [Bool.or_eq_true, List.contains_iff_mem] at this
  rcases this with h1 | h1
  · exact h1
  · have := List.all_eq_true.1 h1 t ht
    rw [hd] at this
    simp at this
/-- Only to tell plans apart. -/
def quietB (all : List Oper) (j : Nat) : Bool := match onth all j with
  | some o => match o.op with
    | .load .. | .convert .. => true
    | .call c => match c.callee with
      | .builtin .append => false
      | .builtin .copy => false
      | _ => true
    | op => pureOp op
  | none => false
def planB (all : List Oper) : Plan → List Bool → Bool
  | .done, V => V.all id
  | .q j r, V => ((openB all V j && antiB all j) && quietB all j) && planB all r (V.set j true)
  | .one i safe r, V => onlyB all V [i] && openB all V i && (!safe || safeB all V i) && planB all r (V.set i true)
  | .two i r j s, V => onlyB all V [i, j] && openB all V i && openB all V j && planB all r (V.set i true) && planB all s (V.set j true)

/-! ### What comes first -/
def qone (G : Cx) (T : Tab) (hs : Hp) (env : Env) (op : Op) (K : Value → Prop) : Prop := match op with
  | .call c => match c.callee with
    | .value f => evK env f fun vf => evAllK env c.args.toList fun vs => targetK vf vs fun n l => match T.has n with
      | true => QuietVC G hs n l K
      | false => False
    | _ => pvc G T hs env op K
  | _ => xvc G T hs env op K
/-- What an operation of the first part hands back, whenever it comes. -/
def QRun (G : Cx) (hs : Hp) (ρ : Operand → Value) (o : Oper) (v : Value) : Prop :=
  (∀ hs1 w, St G hs1 w → (∀ w', St G hs1 w' → St G hs w') → (execOp ρ o).run G.P w = .ok (.value v) w ∨ ∃ f args, (execOp ρ o).run G.P w = .ok (.enter f args) w ∧ Calls G.P f args w fun e w' => e = .returned v ∧ St G hs1 w') ∧
  (pureOp o.op = true → ∀ w, (execOp ρ o).run G.P w = .ok (.value v) w)
/-- Answers that hang on no world. -/
def wvc (P : Program) {α : Type} : Sem α → (α → Prop) → Prop
  | .pure a, K => K a
  | .program k, K => wvc P (k P) K
  | .mark _ k, K => wvc P k K
  | _, _ => False
theorem wvc_sound {P : Program} {α : Type} (m : Sem α) : ∀ (K : α → Prop), wvc P m K → ∃ a, (∀ w, m.run P w = .ok a w) ∧ K a := by
  induction m with
  | pure a => intro K h; exact ⟨a, fun _ => rfl, h⟩
  | program k ih => intro K h; exact ih _ K h
  | mark m k ih => intro K h; exact ih K h
  | _ => intro K h; exact h.elim
def bareW : World := { (default : World) with heap := #[] }
theorem st_bare (P : Program) : St ⟨P, bareW, []⟩ [] bareW :=
  ⟨rfl, rfl, rfl, Nat.le_refl _, fun _ _ _ => rfl, (by simp), List.nodup_nil, (by simp)⟩
theorem wvc_of_qvc {P : Program} {α : Type} (m : Sem α) : ∀ (K : α → Prop), qvc ⟨P, bareW, []⟩ m [] K → wvc P m K := by
  induction m with
  | pure a => intro K h; exact h
  | load m a k ih =>
    rintro K ⟨v, hv, h⟩
    have := hv _ (st_bare P)
    simp [World.cell?, bareW] at this
  | shape r k ih => rintro K ⟨e, he, _⟩; cases he
  | program k ih => intro K h; exact ih _ K h
  | mark m k ih => intro K h; exact ih K h
  | _ => intro K h; exact h.elim
theorem pvc_qrun {hs : Hp} {env : Env} {ρ : Operand → Value} {o : Oper} {K : Value → Prop} (hT : TabOK G.P T) (hρ : Agrees ρ env) (h : pvc G T hs env o.op K) : ∃ v, QRun G hs ρ o v ∧ K v := by
  obtain ⟨dst, op, ty, pos, after, guard⟩ := o
  by_cases hp : pureOp op = true
  · have h1 := pvc_pure hp h ⟨G.P, bareW, []⟩ []
    have h2 := pvc_sound (G := ⟨G.P, bareW, []⟩) (dst := dst) (ty := ty) (pos := pos) (after := after) (guard := guard) hT hρ h1
    obtain ⟨nx, hr, v, rfl, hk⟩ := wvc_sound _ _ (wvc_of_qvc _ _ h2)
    exact ⟨v, ⟨fun _ w _ _ => .inl (hr w), fun _ w => hr w⟩, hk⟩
  · obtain ⟨nx, hr, v, rfl, hk⟩ := qvc_sound _ _ _ (pvc_sound (dst := dst) (ty := ty) (pos := pos) (after := after) (guard := guard) hT hρ h)
    exact ⟨v, ⟨fun _ w hw h1 => .inl (hr w (h1 w hw)), fun h => absurd h hp⟩, hk⟩
theorem xvc_qrun {hs : Hp} {env : Env} {ρ : Operand → Value} {o : Oper} {K : Value → Prop} (hT : TabOK G.P T) (hρ : Agrees ρ env) (h : xvc G T hs env o.op K) : ∃ v, QRun G hs ρ o v ∧ K v := by
  unfold xvc at h
  split at h
  · rename_i bop t x y yt hop
    obtain ⟨vx, hx, h⟩ := evK_some h
    split at h
    · rename_i xs
      obtain ⟨vy, hy, h⟩ := evK_some h
      split at h
      · rename_i ys
        have hcx := hρ _ _ hx
        have hcy := hρ _ _ hy
        obtain ⟨v, hr, hk⟩ := agg_run (P := G.P) (x := x) (y := y) hT.eqs h
        obtain ⟨dst, op, ty, pos, after, guard⟩ := o
        simp only at hop
        subst hop
        have hall : ∀ w, (execOp ρ ⟨dst, .binOp bop t x y yt, ty, pos, after, guard⟩).run G.P w = .ok (.value v) w := by
          intro w
          simp only [execOp, hcx, hcy]
          exact run_bind _ _ (hr w)
        exact ⟨v, ⟨fun _ w _ _ => .inl (hall w), fun _ w => hall w⟩, hk⟩
      · exact h.elim
    · exact pvc_qrun hT hρ (by rw [hop]; exact h)
  · exact pvc_qrun hT hρ h
theorem qone_qrun {hs : Hp} {env : Env} {ρ : Operand → Value} {o : Oper} {K : Value → Prop} (hT : TabOK G.P T) (hρ : Agrees ρ env) (h : qone G T hs env o.op K) : ∃ v, QRun G hs ρ o v ∧ K v := by
  unfold qone at h
  split at h
  · rename_i c hop
    split at h
    · rename_i f hcal
      have h1 := evAllK_out hρ _ _ (evK_out hρ h)
      have hnp : pureOp o.op = true → False := by rw [hop]; simp [pureOp, hcal]
      obtain ⟨n, l, hk, hr⟩ : ∃ n l, (match T.has n with | true => QuietVC G hs n l K | false => False) ∧ ∀ w, callable G.P n → (execOp ρ o).run G.P w = .ok (.enter n l.toArray) w := by
        unfold targetK at h1
        split at h1
        · rename_i fn first captured hf
          have main : ∀ n, fn = .func n → (match T.has n with | true => QuietVC G hs n (first.toList ++ c.args.toList.map ρ ++ captured.toList) K | false => False) →
              ∃ n l, (match T.has n with | true => QuietVC G hs n l K | false => False) ∧ ∀ w, callable G.P n → (execOp ρ o).run G.P w = .ok (.enter n l.toArray) w := by
            rintro n rfl hk
            refine ⟨n, _, hk, fun w hcl => ?_⟩
            have e : first ++ c.args.map ρ ++ captured = (first.toList ++ c.args.toList.map ρ ++ captured.toList).toArray := by
              apply Array.ext'; simp
            obtain ⟨dst, op, ty, pos, after, guard⟩ := o
            simp only at hop
            subst hop
            simp only [execOp, resolve, hcal, hf, Deferred.ofValue, bind, Sem.bind, pure, invoke]
            rw [callFunc_run hcl, e]
          split at h1
          · rename_i fn' f' h2 h3
            refine main f' rfl ?_
            rw [h2, h3]
            simpa using h1
          · exact main _ rfl h1
          · exact h1.elim
        · exact h1.elim
      split at hk
      · rename_i hlt
        have hcl := hT.fns n hlt
        rw [QuietVC_eq] at hk
        obtain ⟨v, h2, h3⟩ := hk
        exact ⟨v, ⟨fun hs1 w hw h1 => .inr ⟨n, l.toArray, hr w hcl, h2 hs1 w hw h1⟩, fun hp => (hnp hp).elim⟩, h3⟩
      · exact hk.elim
    · exact pvc_qrun hT hρ (by rw [hop]; rw [hop] at *; exact h)
  · exact xvc_qrun hT hρ h

/-- Frames that agree on what an operation looks at. -/
theorem same_exec {all : List Oper} {o : Oper} {a b : Act} (hsel : ∀ cs b, o.op ≠ .select cs b) (h : ∀ t ∈ o.looksAt all.toArray, a.tmps[t]? = b.tmps[t]?) : execOp a.eval o = execOp b.eval o := by
  refine execOp_congr o hsel fun x hx => ?_
  cases x with
  | tmp t =>
    have := h t (List.mem_append_left _ (List.mem_filterMap.2 ⟨.tmp t, by simpa using hx, rfl⟩))
    simp only [Act.eval, Array.getD_eq_getD_getElem?, this]
  | _ => rfl
theorem same_wanted {all : List Oper} {o : Oper} {a b : Act} (h : ∀ t ∈ o.looksAt all.toArray, a.tmps[t]? = b.tmps[t]?) :
    Region.wanted o (yielded all.toArray a.tmps) = Region.wanted o (yielded all.toArray b.tmps) := by
  unfold Region.wanted
  cases hg : o.guard with
  | none => rfl
  | some gw =>
    obtain ⟨g, want⟩ := gw
    have hy : yielded all.toArray a.tmps g = yielded all.toArray b.tmps g := by
      unfold yielded
      cases ht : (all.toArray[g]?).bind (·.dst) with
      | none => rfl
      | some t =>
        have := h t (by unfold Oper.looksAt; rw [hg]; refine List.mem_append_right _ ?_; simp only [ht]; simp)
        simp only [Option.bind_some, this]
    simp only [hy]
theorem put_other {a : Act} {dst : Option Nat} {v : Value} {t : Nat} (h : dst ≠ some t) : (a.put dst v).tmps[t]? = a.tmps[t]? := by
  cases dst with
  | none => rfl
  | some d => exact Array.getElem?_setIfInBounds_ne (fun hd => h (by rw [hd]))
end
section
set_option linter.unusedVariables false
set_option linter.unusedSimpArgs false
variable {G : Cx} {T : Tab} {r : Option Nat} {ds : List Deferred}

/-- How many are still to come. -/
def todo (m : Nat) (listed : Array Bool) : Nat := ((List.range m).filter fun i => !listed.getD i true).length
theorem todo_set {m i : Nat} {listed : Array Bool} (hi : i < m) (hs : listed.size = m) (hu : listed.getD i true = false) : todo m (listed.setIfInBounds i true) < todo m listed := by
  unfold todo
  have h1 : (List.range m).filter (fun j => !(listed.setIfInBounds i true).getD j true) = ((List.range m).filter fun j => !listed.getD j true).filter (fun j => decide (j ≠ i)) := by
    rw [List.filter_filter]
    refine List.filter_congr fun j hj => ?_
    by_cases hji : j = i
    · subst hji
      simp [Array.getD_eq_getD_getElem?, Array.getElem?_setIfInBounds_self_of_lt (show j < listed.size by omega)]
    · simp [Array.getD_eq_getD_getElem?, Array.getElem?_setIfInBounds_ne (fun h => hji h.symm), hji]
  rw [h1]
  refine List.length_filter_lt_length_iff_exists.2 ⟨i, ?_, by simp⟩
  rw [List.mem_filter]
  exact ⟨List.mem_range.2 hi, by rw [hu]; rfl⟩
theorem getD_lt {listed : Array Bool} {m i : Nat} (hs : listed.size = m) (hi : i < m) : listed.getD i true = listed.getD i false := by
  simp [Array.getD_eq_getD_getElem?, Array.getElem?_eq_getElem (show i < listed.size by omega)]
theorem getD_set {listed : Array Bool} {i j : Nat} : (listed.setIfInBounds i true).getD j false = true → j = i ∨ listed.getD j false = true := by
  intro h
  by_cases hji : j = i
  · exact .inl hji
  · right
    simpa [Array.getD_eq_getD_getElem?, Array.getElem?_setIfInBounds_ne (fun h => hji h.symm)] using h
theorem getD_set' {listed : Array Bool} {i j m : Nat} (hs : listed.size = m) (hj : j < m) (h : j = i ∨ listed.getD j false = true) : (listed.setIfInBounds i true).getD j false = true := by
  by_cases hji : j = i
  · subst hji
    simp [Array.getD_eq_getD_getElem?, Array.getElem?_setIfInBounds_self_of_lt (show j < listed.size by omega)]
  · rcases h with h | h
    · exact absurd h hji
    · simpa [Array.getD_eq_getD_getElem?, Array.getElem?_setIfInBounds_ne (fun h => hji h.symm)] using h
/-! ### What has been reckoned -/
def In (V : List Bool) (i : Nat) : Prop := V[i]? = some true
theorem in_set {V : List Bool} {i j : Nat} (hj : j < V.length) : In (V.set j true) i ↔ i = j ∨ In V i := by
  unfold In
  rw [List.getElem?_set]
  by_cases h : j = i
  · subst h; simp [hj]
  · rw [if_neg h]
    constructor
    · exact .inr
    · rintro (rfl | h'); exact absurd rfl h; exact h'
theorem ready_in {V : List Bool} {o : Oper} : readyB V o = true ↔ ∀ i ∈ bindsOf o, In V i := by
  simp only [readyB, List.all_eq_true, In]
  refine forall_congr' fun i => forall_congr' fun _ => ?_
  rw [List.getD_eq_getElem?_getD]
  cases V[i]? with
  | none => simp
  | some b => simp
theorem notin_getD {V : List Bool} {i : Nat} (h : V.getD i true = false) : i < V.length ∧ ¬ In V i := by
  rw [List.getD_eq_getElem?_getD] at h
  unfold In
  cases hv : V[i]? with
  | none => rw [hv] at h; cases h
  | some b => rw [hv] at h; exact ⟨(List.getElem?_eq_some_iff.1 hv).1, by rintro ⟨⟩; cases h⟩
theorem in_getD {V : List Bool} {i : Nat} (hl : i < V.length) (h : V.getD i true = true) : In V i := by
  rw [List.getD_eq_getElem?_getD, List.getElem?_eq_getElem hl] at h
  unfold In
  rw [List.getElem?_eq_getElem hl]
  exact congrArg some h
theorem open_spec {all : List Oper} {V : List Bool} {i : Nat} (h : openB all V i = true) : ∃ o, all[i]? = some o ∧ onth all i = some o ∧ i < V.length ∧ ¬ In V i ∧ ∀ j ∈ bindsOf o, In V j := by
  unfold openB at h
  split at h
  · rename_i o ho
    simp only [Bool.and_eq_true, Bool.not_eq_true'] at h
    obtain ⟨h1, h2⟩ := notin_getD h.1
    exact ⟨o, by rw [onth_eq]; exact ho, ho, h1, h2, ready_in.1 h.2⟩
  · cases h
theorem only_spec {all : List Oper} {V : List Bool} {l : List Nat} (hV : V.length = all.length) (h : onlyB all V l = true) {i : Nat} {o : Oper} (ho : all[i]? = some o) (hn : ¬ In V i) (hr : ∀ j ∈ bindsOf o, In V j) : i ∈ l := by
  have := List.all_eq_true.1 h (o, i) (List.mem_zipIdx_iff_getElem?.2 ho)
  have hlt : i < V.length := by rw [hV]; exact (List.getElem?_eq_some_iff.1 ho).1
  simp only [Bool.or_eq_true, Bool.not_eq_true', List.contains_iff_mem] at this
  rcases this with (h1 | h1) | h1
  · exact absurd (in_getD hlt h1) hn
  · rw [ready_in.2 hr] at h1; cases h1
  · exact h1
/-- A set of operations that holds with each one all that it waits for. -/
def Closed (all : List Oper) (S : Nat → Prop) : Prop := ∀ i o, S i → all[i]? = some o → ∀ j ∈ bindsOf o, S j
theorem ancs_in {all : List Oper} {S : Nat → Prop} (hS : Closed all S) : ∀ (k : Nat) (A : List Nat), (∀ i ∈ A, S i) → ∀ i ∈ ancs all k A, S i
  | 0, A, h => h
  | k + 1, A, h => by
    unfold ancs
    refine ancs_in hS k _ ?_
    split
    · rename_i hk
      split
      · rename_i o ho
        intro i hi
        rcases List.mem_append.1 hi with hi | hi
        · exact h i hi
        · exact hS k o (h k (by simpa using hk)) (by rw [onth_eq]; exact ho) i hi
      · exact h
    · exact h
theorem safe_spec {all : List Oper} {V : List Bool} {i : Nat} {o : Oper} (hV : V.length = all.length) (h : safeB all V i = true) (ho : all[i]? = some o) {S : Nat → Prop} (hS : Closed all S) (hd : ∀ j ∈ bindsOf o, S j) :
    ∀ k x, all[k]? = some x → In V k → pureOp x.op = true ∨ S k := by
  intro k x hx hk
  unfold safeB at h
  rw [← onth_eq, ho] at h
  dsimp only at h
  have := List.all_eq_true.1 h (x, k) (List.mem_zipIdx_iff_getElem?.2 hx)
  simp only [Bool.or_eq_true, Bool.not_eq_true', List.contains_iff_mem] at this
  rcases this with (h1 | h1) | h1
  · exact absurd hk (notin_getD h1).2
  · exact .inl h1
  · exact .inr (ancs_in hS _ _ hd k h1)

/-! ### The walk by a plan -/
def wkK (safe : Bool) (hs hs' : Hp) (K : Prop) : Prop := match safe with
  | true => K
  | false => Need (hs.Sublist hs') K
structure Both (p q : Prop) : Prop where mk ::
  fst : p
  snd : q
def planVC (G : Cx) (T : Tab) (N : Nat) (all : List Oper) (p : Plan) : Env → Hp → (Env → Hp → Prop) → Prop :=
  Plan.rec (motive := fun _ => Env → Hp → (Env → Hp → Prop) → Prop) (fun env hs K => K env hs)
    (fun j _ ih env hs K => match onth all j with
      | some o => guardK all env o.guard (qone G T hs env o.op fun v => dstK N o.dst v env fun env' => ih env' hs K) (dstK N o.dst undef env fun env' => ih env' hs K)
      | none => False)
    (fun i safe _ ih env hs K => match onth all i with
      | some o => guardK all env o.guard (evc G T hs env o.op fun v hs' => wkK safe hs hs' (dstK N o.dst v env fun env' => ih env' hs' K)) (dstK N o.dst undef env fun env' => ih env' hs K)
      | none => False)
    (fun i _ j _ ih jh env hs K => Both
      (match onth all i with
      | some o => guardK all env o.guard (evc G T hs env o.op fun v hs' => wkK false hs hs' (dstK N o.dst v env fun env' => ih env' hs' K)) (dstK N o.dst undef env fun env' => ih env' hs K)
      | none => False)
      (match onth all j with
      | some o => guardK all env o.guard (evc G T hs env o.op fun v hs' => wkK false hs hs' (dstK N o.dst v env fun env' => jh env' hs' K)) (dstK N o.dst undef env fun env' => jh env' hs K)
      | none => False)) p
theorem put_same {a b : Act} {d : Nat} {v : Value} (h : a.tmps.size = b.tmps.size) : (a.put (some d) v).tmps[d]? = (b.put (some d) v).tmps[d]? := by
  show (a.tmps.setIfInBounds d v)[d]? = (b.tmps.setIfInBounds d v)[d]?
  by_cases hlt : d < a.tmps.size
  · rw [Array.getElem?_setIfInBounds_self_of_lt hlt, Array.getElem?_setIfInBounds_self_of_lt (h ▸ hlt)]
  · rw [Array.getElem?_eq_none (by rw [Array.size_setIfInBounds]; exact Nat.le_of_not_lt hlt), Array.getElem?_eq_none (by rw [Array.size_setIfInBounds, ← h]; exact Nat.le_of_not_lt hlt)]
/-- An operation that was reckoned and is still to come. -/
structure Pend (G : Cx) (all : List Oper) (hs : Hp) (b : Act) (j : Nat) (o : Oper) : Prop where wrap ::
  anti : Anti all j o
  raw : ∃ v hs0, (∀ d, o.dst = some d → b.tmps[d]? = some v) ∧
    ((Region.wanted o (yielded all.toArray b.tmps) = true ∧ QRun G hs0 b.eval o v ∧ (pureOp o.op = true ∨ ∀ w, St G hs w → St G hs0 w)) ∨ (Region.wanted o (yielded all.toArray b.tmps) = false ∧ v = undef))
structure Inv (G : Cx) (T : Tab) (ds : List Deferred) (N : Nat) (all : List Oper) (K : Env → Hp → Prop) (listed : Array Bool) (a : Act) (w : World) (V : List Bool) (p : Plan) (b : Act) (env : Env) (hs : Hp) : Prop where
  size : listed.size = all.length
  vsize : V.length = all.length
  asize : a.tmps.size = N
  adef : a.defers = ds
  sub : ∀ i, listed.getD i false = true → In V i
  closedL : Closed all fun i => listed.getD i false = true
  closedV : Closed all (In V)
  fits : Fits ds N env b
  st : St G hs w
  vc : planVC G T N all p env hs K
  pb : planB all p V = true
  pend : ∀ (i : Nat) (o : Oper), all[i]? = some o → In V i → listed.getD i false = false → Pend G all hs b i o
  same : ∀ t, (∀ (i : Nat) (o : Oper), all[i]? = some o → In V i → listed.getD i false = false → o.dst ≠ some t) → a.tmps[t]? = b.tmps[t]?
variable {N : Nat} {all : List Oper} {K : Env → Hp → Prop}
theorem closed_set {V : List Bool} {i : Nat} {o : Oper} (hV : Closed all (In V)) (hi : i < V.length) (ho : all[i]? = some o) (hd : ∀ j ∈ bindsOf o, In V j) : Closed all (In (V.set i true)) := by
  intro k x hk hx j hj
  rw [in_set hi] at hk ⊢
  rcases hk with rfl | hk
  · rw [ho] at hx; cases hx; exact .inr (hd j hj)
  · exact .inr (hV k x hk hx j hj)
/-- A pending operation bears that a slot is written that it does not look at. -/
theorem Pend.put (hW : wellB all = true) {hs hs' : Hp} {b : Act} {i k : Nat} {o x : Oper} {v : Value} {V : List Bool} (hV : Closed all (In V)) (hx : all[k]? = some x) (hk : In V k) (ho : all[i]? = some o) (hi : ¬ In V i)
    (hw : ∀ t ∈ x.looksAt all.toArray, o.dst ≠ some t)
    (h : Pend G all hs b k x) (hst : pureOp x.op = true ∨ ∀ w, St G hs' w → St G hs w) : Pend G all hs' (b.put o.dst v) k x := by
  obtain ⟨u, hs0, h1, h2⟩ := h.raw
  have D := wellB_spec hW hx
  have hlook : ∀ t ∈ x.looksAt all.toArray, (b.put o.dst v).tmps[t]? = b.tmps[t]? := fun t ht => put_other (hw t ht)
  have hne : k ≠ i := by rintro rfl; exact hi hk
  refine ⟨h.anti, u, hs0, fun d hd => ?_, ?_⟩
  · rw [put_other, h1 d hd]
    intro hd'
    rcases Nat.lt_or_ge k i with h3 | h3
    · exact D.once d hd i o h3 ho hd'
    · exact (wellB_spec hW ho).once d hd' k x (by omega) hx hd
  · rw [same_wanted hlook]
    rcases h2 with ⟨h3, h4, h5⟩ | h3
    · refine .inl ⟨h3, ⟨fun hs1 w hw h6 => ?_, fun hp w => ?_⟩, ?_⟩
      · rw [same_exec D.sel hlook]; exact h4.1 hs1 w hw h6
      · rw [same_exec D.sel hlook]; exact h4.2 hp w
      · rcases h5 with h5 | h5
        · exact .inl h5
        · rcases hst with hst | hst
          · exact .inl hst
          · exact .inr fun w hw => h5 w (hst w hw)
    · exact .inr h3
/-- The reckoning goes ahead on what only reads. -/
theorem Inv.ahead (hT : TabOK G.P T) (hW : wellB all = true) {listed : Array Bool} {a : Act} {w : World} : ∀ (p : Plan) (V : List Bool) (b : Act) (env : Env) (hs : Hp), Inv G T ds N all K listed a w V p b env hs →
    ∃ V' p' b' env', Inv G T ds N all K listed a w V' p' b' env' hs ∧ (∀ j r, p' ≠ .q j r)
  | .done, V, b, env, hs, I => ⟨V, .done, b, env, I, fun _ _ h => by cases h⟩
  | .one i s r, V, b, env, hs, I => ⟨V, .one i s r, b, env, I, fun _ _ h => by cases h⟩
  | .two i r j s, V, b, env, hs, I => ⟨V, .two i r j s, b, env, I, fun _ _ h => by cases h⟩
  | .q j r, V, b, env, hs, I => by
    have hpb := I.pb
    unfold planB at hpb
    simp only [Bool.and_eq_true] at hpb
    obtain ⟨o, ho, hon, hj, hjn, hd⟩ := open_spec hpb.1.1.1
    have hanti := anti_spec hpb.1.1.2 ho
    have hvc : guardK all env o.guard (qone G T hs env o.op fun v => dstK N o.dst v env fun env' => planVC G T N all r env' hs K) (dstK N o.dst undef env fun env' => planVC G T N all r env' hs K) := by
      have := I.vc
      change (match onth all j with
        | some o => guardK all env o.guard (qone G T hs env o.op fun v => dstK N o.dst v env fun env' => planVC G T N all r env' hs K) (dstK N o.dst undef env fun env' => planVC G T N all r env' hs K)
        | none => False) at this
      rwa [hon] at this
    have D := wellB_spec hW ho
    have hnl : listed.getD j false = false := by
      cases h : listed.getD j false with
      | false => rfl
      | true => exact absurd (I.sub j h) hjn
    obtain ⟨v, env1, hq, hf1, hrest, hlt⟩ : ∃ v env1, ((Region.wanted o (yielded all.toArray b.tmps) = true ∧ QRun G hs b.eval o v) ∨ (Region.wanted o (yielded all.toArray b.tmps) = false ∧ v = undef)) ∧
        Fits ds N env1 (b.put o.dst v) ∧ planVC G T N all r env1 hs K ∧ ∀ d, o.dst = some d → d < N := by
      have hN : ∀ {v : Value} {K' : Env → Prop}, dstK N o.dst v env K' → ∀ d, o.dst = some d → d < N := by
        intro v K' h d hd
        unfold dstK at h
        rw [hd] at h
        dsimp only at h
        split at h
        · rename_i hb; simpa using hb
        · exact h.elim
      rcases guardK_out I.fits hvc with ⟨hw, hrun⟩ | ⟨hw, hskip⟩
      · obtain ⟨v, hv, hd⟩ := qone_qrun hT I.fits.agrees hrun
        obtain ⟨env1, h1, h2⟩ := dstK_out I.fits hd
        exact ⟨v, env1, .inl ⟨hw, hv⟩, h2, h1, hN hd⟩
      · obtain ⟨env1, h1, h2⟩ := dstK_out I.fits hskip
        exact ⟨undef, env1, .inr ⟨hw, rfl⟩, h2, h1, hN hskip⟩
    have hself : ∀ t ∈ o.looksAt all.toArray, (b.put o.dst v).tmps[t]? = b.tmps[t]? := fun t ht => put_other fun hdt => hjn (hd j (hanti j o ho t ht hdt))
    refine Inv.ahead hT hW r (V.set j true) (b.put o.dst v) env1 hs ⟨I.size, by simp [I.vsize], I.asize, I.adef, fun i hi => (in_set hj).2 (.inr (I.sub i hi)), I.closedL, closed_set I.closedV hj ho hd, hf1, I.st, hrest, hpb.2, ?_, ?_⟩
    · intro k x hx hk hun
      rcases (in_set hj).1 hk with rfl | hk
      · rw [ho] at hx
        obtain rfl := Option.some.inj hx
        refine ⟨hanti, v, hs, fun d hdd => ?_, ?_⟩
        · rw [hdd]
          exact Array.getElem?_setIfInBounds_self_of_lt (by rw [I.fits.size]; exact hlt d hdd)
        · rw [same_wanted hself]
          rcases hq with ⟨h1, h2⟩ | h1
          · refine .inl ⟨h1, ⟨fun hs1 w hw h6 => ?_, fun hp w => ?_⟩, .inr fun w hw => hw⟩
            · rw [same_exec D.sel hself]; exact h2.1 hs1 w hw h6
            · rw [same_exec D.sel hself]; exact h2.2 hp w
          · exact .inr h1
      · exact (I.pend k x hx hk hun).put hW I.closedV hx hk ho hjn (fun t ht hdt => hjn (I.closedV k x hk hx j (hanti k x hx t ht hdt))) (.inr fun w hw => hw)
    · intro t ht
      have hne : o.dst ≠ some t := ht j o ho ((in_set hj).2 (.inl rfl)) hnl
      rw [put_other hne]
      exact I.same t fun i x hx hi hun => ht i x hx ((in_set hj).2 (.inr hi)) hun
end
end Go.Proofs.YtnlheljpagpiiaaGreat
