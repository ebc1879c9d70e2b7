/-
  A region whose order is open: what is asked of it; operations that only read.
-/
import Derived.Test.YtbccpibgjjiikaaWd
set_option linter.unusedVariables false
set_option linter.unusedSimpArgs false
namespace Go.Proofs.Ytbccpibgjjiikaa
variable {G : Cx} {T : Tab}

/-- Operations whose answer hangs on the frame alone. -/
def pureOp : Op → Bool
  | .move _ | .assign _ | .pick .. | .binOp .. | .unOp .. | .nilCheck _ | .fieldAddr .. | .indexAddr .. | .index .. | .extract .. | .slice .. | .sliceToArrayPointer .. | .makeFunc .. | .build .. => true
  | .call c => match c.callee with
    | .builtin _ => true
    | _ => false
  | _ => false
theorem pvc_pure {hs : Hp} {env : Env} {op : Op} {K : Value → Prop} (hp : pureOp op = true) (h : pvc G T hs env op K) (G' : Cx) (hs' : Hp) : pvc G' T hs' env op K := by
  cases op <;> simp only [pureOp] at hp <;> first | exact h | (exact absurd hp (by decide))

def edgeB (o : Oper) (i : Nat) : Bool := o.after.toList.any fun e => Region.binds .any e && e.on == i
def bindsOf (o : Oper) : List Nat := (o.after.toList.filter fun e => Region.binds .any e).map (·.on)
/-- What the operations must bear: each edge leads back; each slot is written once, and what looks at it waits for it. -/
def wellAt (all : List Oper) (j : Nat) (o : Oper) : Bool :=
  ((bindsOf o).all fun i => decide (i < j)) &&
  (match o.dst with | some d => (all.drop (j + 1)).all fun x => x.dst != some d | none => true) &&
  ((o.looksAt all.toArray).all fun t => all.zipIdx.all fun (x, i) => x.dst != some t || (bindsOf o).contains i || (bindsOf x).contains j || i == j) &&
  (match o.op with | .select .. => false | _ => true)
def wellB (all : List Oper) : Bool := all.zipIdx.all fun (o, j) => wellAt all j o
structure Well (all : List Oper) (j : Nat) (o : Oper) : Prop where
  back : ∀ i ∈ bindsOf o, i < j
  once : ∀ d, o.dst = some d → ∀ i x, j < i → all[i]? = some x → x.dst ≠ some d
  waits : ∀ t ∈ o.looksAt all.toArray, ∀ (i : Nat) (x : Oper), all[i]? = some x → x.dst = some t → i ∈ bindsOf o ∨ j ∈ bindsOf x ∨ i = j
  sel : ∀ cs b, o.op ≠ .select cs b
theorem wellB_spec {all : List Oper} (h : wellB all = true) {j : Nat} {o : Oper} (ho : all[j]? = some o) : Well all j o := by
  have h1 : wellAt all j o = true := by
    unfold wellB at h
    rw [List.all_eq_true] at h
    exact h (o, j) (List.mem_zipIdx_iff_getElem?.2 ho)
  unfold wellAt at h1
  simp only [Bool.and_eq_true] at h1
  obtain ⟨⟨⟨a1, a2⟩, a3⟩, a4⟩ := h1
  refine ⟨?_, ?_, ?_, ?_⟩
  · intro i hi
    simpa using List.all_eq_true.1 a1 i hi
  · intro d hd i x hi hx
    rw [hd] at a2
    have := List.all_eq_true.1 a2 x (by
      rw [List.mem_iff_getElem?]
      exact ⟨i - (j + 1), by rw [List.getElem?_drop, show j + 1 + (i - (j + 1)) = i by omega]; exact hx⟩)
    simpa using this
  · intro t ht i x hx hd
    have := List.all_eq_true.1 a3 t ht
    have h2 := List.all_eq_true.1 this (x, i) (List.mem_zipIdx_iff_getElem?.2 hx)
    simpa [hd, or_assoc] using h2
  · intro cs b hsel
    rw [hsel] at a4
    exact absurd a4 (by simp)
theorem mem_binds {o : Oper} {i : Nat} : i ∈ bindsOf o ↔ ∃ e ∈ o.after, Region.binds .any e = true ∧ e.on = i := by
  simp only [bindsOf, List.mem_map, List.mem_filter, Array.mem_toList_iff]
  constructor
  · rintro ⟨e, ⟨h1, h2⟩, h3⟩; exact ⟨e, h1, h2, h3⟩
  · rintro ⟨e, h1, h2, h3⟩; exact ⟨e, ⟨h1, h2⟩, h3⟩
/-- An order for the reckoning: what only reads as soon as it may come; what writes where nothing else may. -/
inductive Plan where
  | done
  | q (j : Nat) (r : Plan)
  | one (i : Nat) (safe : Bool) (r : Plan)
  | two (i : Nat) (r : Plan) (j : Nat) (s : Plan)
def readyB (V : List Bool) (o : Oper) : Bool := (bindsOf o).all fun i => V.getD i false
def openB (all : List Oper) (V : List Bool) (i : Nat) : Bool := match onth all i with
  | some o => !V.getD i true && readyB V o
  | none => false
def onlyB (all : List Oper) (V : List Bool) (l : List Nat) : Bool := all.zipIdx.all fun (o, k) => V.getD k true || !readyB V o || l.contains k
/-- All that an operation waits for, by whatever way. -/
def ancs (all : List Oper) : Nat → List Nat → List Nat
  | 0, A => A
  | k + 1, A => ancs all k (match A.contains k with
    | true => (match onth all k with | some o => A ++ bindsOf o | none => A)
    | false => A)
def safeB (all : List Oper) (V : List Bool) (i : Nat) : Bool := match onth all i with
  | some o => let A := ancs all all.length (bindsOf o); all.zipIdx.all fun (x, k) => !V.getD k true || pureOp x.op || A.contains k
  | none => false
/-- Whatever looks at what an operation writes waits for it. -/
def antiB (all : List Oper) (j : Nat) : Bool := match onth all j with
  | some o => all.all fun x => (bindsOf x).contains j || (x.looksAt all.toArray).all fun t => o.dst != some t
  | none => false
def Anti (all : List Oper) (j : Nat) (o : Oper) : Prop := ∀ (k : Nat) (x : Oper), all[k]? = some x → ∀ t ∈ x.looksAt all.toArray, o.dst = some t → j ∈ bindsOf x
theorem anti_spec {all : List Oper} {j : Nat} {o : Oper} (h : antiB all j = true) (ho : all[j]? = some o) : Anti all j o := by
  intro k x hx t ht hd
  unfold antiB at h
  rw [← onth_eq, ho] at h
  have := List.all_eq_true.1 h x (List.mem_of_getElem? hx)
  simp only [Bool.or_eq_true, List.contains_iff_mem] at this
  rcases this with h1 | h1
  · exact h1
  · have := List.all_eq_true.1 h1 t ht
    rw [hd] at this
    simp at this
/-- Only to tell plans apart. -/
def quietB (all : List Oper) (j : Nat) : Bool := match onth all j with
  | some o => match o.op with
    | .load .. | .convert .. => true
    | .call c => match c.callee with
      | .builtin .append => false
      | .builtin .copy => false
      | _ => true
    | op => pureOp op
  | none => false
def planB (all : List Oper) : Plan → List Bool → Bool
  | .done, V => V.all id
  | .q j r, V => ((openB all V j && antiB all j) && quietB all j) && planB all r (V.set j true)
  | .one i safe r, V => onlyB all V [i] && openB all V i && (!safe || safeB all V i) && planB all r (V.set i true)
  | .two i r j s, V => onlyB all V [i, j] && openB all V i && openB all V j && planB all r (V.set i true) && planB all s (V.set j true)

/-! ### What comes first -/
def qone (G : Cx) (T : Tab) (hs : Hp) (env : Env) (op : Op) (K : Value → Prop) : Prop := match op with
  | .call c => match c.callee with
    | .value f => evK env f fun vf => evAllK env c.args.toList fun vs => targetK vf vs fun n l => match T.has n with
      | true => QuietVC G hs n l K
      | false => False
    | _ => pvc G T hs env op K
  | _ => xvc G T hs env op K
/-- What an operation of the first part hands back, whenever it comes. -/
def QRun (G : Cx) (hs : Hp) (ρ : Operand → Value) (o : Oper) (v : Value) : Prop :=
  (∀ hs1 w, St G hs1 w → (∀ w', St G hs1 w' → St G hs w') → (execOp ρ o).run G.P w = .ok (.value v) w ∨ ∃ f args, (execOp ρ o).run G.P w = .ok (.enter f args) w ∧ Calls G.P f args w fun e w' => e = .returned v ∧ St G hs1 w') ∧
  (pureOp o.op = true → ∀ w, (execOp ρ o).run G.P w = .ok (.value v) w)
/-- Answers that hang on no world. -/
def wvc (P : Program) {α : Type} : Sem α → (α → Prop) → Prop
  | .pure a, K => K a
  | .program k, K => wvc P (k P) K
  | .mark _ k, K => wvc P k K
  | _, _ => False
theorem wvc_sound {P : Program} {α : Type} (m : Sem α) : ∀ (K : α → Prop), wvc P m K → ∃ a, (∀ w, m.run P w = .ok a w) ∧ K a := by
  induction m with
  | pure a => intro K h; exact ⟨a, fun _ => rfl, h⟩
  | program k ih => intro K h; exact ih _ K h
  | mark m k ih => intro K h; exact ih K h
  | _ => intro K h; exact h.elim
def bareW : World := { (default : World) with heap := #[] }
theorem st_bare (P : Program) : St ⟨P, bareW, []⟩ [] bareW :=
  ⟨rfl, rfl, rfl, Nat.le_refl _, fun _ _ _ => rfl, (by simp), List.nodup_nil, (by simp)⟩
theorem wvc_of_qvc {P : Program} {α : Type} (m : Sem α) : ∀ (K : α → Prop), qvc ⟨P, bareW, []⟩ m [] K → wvc P m K := by
  induction m with
  | pure a => intro K h; exact h
  | load m a k ih =>
    rintro K ⟨v, hv, h⟩
    have := hv _ (st_bare P)
    simp [World.cell?, bareW] at this
  | shape r k ih => rintro K ⟨e, he, _⟩; cases he
  | program k ih => intro K h; exact ih _ K h
  | mark m k ih => intro K h; exact ih K h
  | _ => intro K h; exact h.elim
theorem pvc_qrun {hs : Hp} {env : Env} {ρ : Operand → Value} {o : Oper} {K : Value → Prop} (hT : TabOK G.P T) (hρ : Agrees ρ env) (h : pvc G T hs env o.op K) : ∃ v, QRun G hs ρ o v ∧ K v := by
  obtain ⟨dst, op, ty, pos, after, guard⟩ := o
  by_cases hp : pureOp op = true
  · have h1 := pvc_pure hp h ⟨G.P, bareW, []⟩ []
    have h2 := pvc_sound (G := ⟨G.P, bareW, []⟩) (dst := dst) (ty := ty) (pos := pos) (after := after) (guard := guard) hT hρ h1
    obtain ⟨nx, hr, v, rfl, hk⟩ := wvc_sound _ _ (wvc_of_qvc _ _ h2)
    exact ⟨v, ⟨fun _ w _ _ => .inl (hr w), fun _ w => hr w⟩, hk⟩
  · obtain ⟨nx, hr, v, rfl, hk⟩ := qvc_sound _ _ _ (pvc_sound (dst := dst) (ty := ty) (pos := pos) (after := after) (guard := guard) hT hρ h)
    exact ⟨v, ⟨fun _ w hw h1 => .inl (hr w (h1 w hw)), fun h => absurd h hp⟩, hk⟩
theorem xvc_qrun {hs : Hp} {env : Env} {ρ : Operand → Value} {o : Oper} {K : Value → Prop} (hT : TabOK G.P T) (hρ : Agrees ρ env) (h : xvc G T hs env o.op K) : ∃ v, QRun G hs ρ o v ∧ K v := by
  unfold xvc at h
  split at h
  · rename_i bop t x y yt hop
    obtain ⟨vx, hx, h⟩ := evK_some h
    split at h
    · rename_i xs
      obtain ⟨vy, hy, h⟩ := evK_some h
      split at h
      · rename_i ys
        have hcx := hρ _ _ hx
        have hcy := hρ _ _ hy
        obtain ⟨v, hr, hk⟩ := agg_run (P := G.P) (x := x) (y := y) hT.eqs h
        obtain ⟨dst, op, ty, pos, after, guard⟩ := o
        simp only at hop
        subst hop
        have hall : ∀ w, (execOp ρ ⟨dst, .binOp bop t x y yt, ty, pos, after, guard⟩).run G.P w = .ok (.value v) w := by
          intro w
          simp only [execOp, hcx, hcy]
          exact run_bind _ _ (hr w)
        exact ⟨v, ⟨fun _ w _ _ => .inl (hall w), fun _ w => hall w⟩, hk⟩
      · exact h.elim
    · exact pvc_qrun hT hρ (by rw [hop]; exact h)
  · exact pvc_qrun hT hρ h
theorem qone_qrun {hs : Hp} {env : Env} {ρ : Operand → Value} {o : Oper} {K : Value → Prop} (hT : TabOK G.P T) (hρ : Agrees ρ env) (h : qone G T hs env o.op K) : ∃ v, QRun G hs ρ o v ∧ K v := by
  unfold qone at h
  split at h
  · rename_i c hop
    split at h
    · rename_i f hcal
      have h1 := evAllK_out hρ _ _ (evK_out hρ h)
      have hnp : pureOp o.op = true → False := by rw [hop]; simp [pureOp, hcal]
      obtain ⟨n, l, hk, hr⟩ : ∃ n l, (match T.has n with | true => QuietVC G hs n l K | false => False) ∧ ∀ w, callable G.P n → (execOp ρ o).run G.P w = .ok (.enter n l.toArray) w := by
        unfold targetK at h1
        split at h1
        · rename_i fn first captured hf
          have main : ∀ n, fn = .func n → (match T.has n with | true => QuietVC G hs n (first.toList ++ c.args.toList.map ρ ++ captured.toList) K | false => False) →
              ∃ n l, (match T.has n with | true => QuietVC G hs n l K | false => False) ∧ ∀ w, callable G.P n → (execOp ρ o).run G.P w = .ok (.enter n l.toArray) w := by
            rintro n rfl hk
            refine ⟨n, _, hk, fun w hcl => ?_⟩
            have e : first ++ c.args.map ρ ++ captured = (first.toList ++ c.args.toList.map ρ ++ captured.toList).toArray := by
              apply Array.ext'; simp
            obtain ⟨dst, op, ty, pos, after, guard⟩ := o
            simp only at hop
            subst hop
            simp only [execOp, resolve, hcal, hf, Deferred.ofValue, bind, Sem.bind, pure, invoke]
            rw [callFunc_run hcl, e]
          split at h1
          · rename_i fn' f' h2 h3
            refine main f' rfl ?_
            rw [h2, h3]
            simpa using h1
          · exact main _ rfl h1
          · exact h1.elim
        · exact h1.elim
      split at hk
      · rename_i hlt
        have hcl := hT.fns n hlt
        rw [QuietVC_eq] at hk
        obtain ⟨v, h2, h3⟩ := hk
        exact ⟨v, ⟨fun hs1 w hw h1 => .inr ⟨n, l.toArray, hr w hcl, h2 hs1 w hw h1⟩, fun hp => (hnp hp).elim⟩, h3⟩
      · exact hk.elim
    · exact pvc_qrun hT hρ (by rw [hop]; rw [hop] at *; exact h)
  · exact xvc_qrun hT hρ h

/-- Frames that agree on what an operation looks at. -/
theorem same_exec {all : List Oper} {o : Oper} {a b : Act} (hsel : ∀ cs b, o.op ≠ .select cs b) (h : ∀ t ∈ o.looksAt all.toArray, a.tmps[t]? = b.tmps[t]?) : execOp a.eval o = execOp b.eval o := by
  refine execOp_congr o hsel fun x hx => ?_
  cases x with
  | tmp t =>
    have := h t (List.mem_append_left _ (List.mem_filterMap.2 ⟨.tmp t, by simpa using hx, rfl⟩))
    simp only [Act.eval, Array.getD_eq_getD_getElem?, this]
  | _ => rfl
theorem same_wanted {all : List Oper} {o : Oper} {a b : Act} (h : ∀ t ∈ o.looksAt all.toArray, a.tmps[t]? = b.tmps[t]?) :
    Region.wanted o (yielded all.toArray a.tmps) = Region.wanted o (yielded all.toArray b.tmps) := by
  unfold Region.wanted
  cases hg : o.guard with
  | none => rfl
  | some gw =>
    obtain ⟨g, want⟩ := gw
    have hy : yielded all.toArray a.tmps g = yielded all.toArray b.tmps g := by
      unfold yielded
      cases ht : (all.toArray[g]?).bind (·.dst) with
      | none => rfl
      | some t =>
        have := h t (by unfold Oper.looksAt; rw [hg]; refine List.mem_append_right _ ?_; simp only [ht]; simp)
        simp only [Option.bind_some, this]
    simp only [hy]
theorem put_other {a : Act} {dst : Option Nat} {v : Value} {t : Nat} (h : dst ≠ some t) : (a.put dst v).tmps[t]? = a.tmps[t]? := by
  cases dst with
  | none => rfl
  | some d => exact Array.getElem?_setIfInBounds_ne (fun hd => h (by rw [hd]))

end Go.Proofs.Ytbccpibgjjiikaa
