/-
  A region whose order is open: what only reads may come in any order, what writes comes behind it.
-/
import Derived.Test.YtljihicdoneniaaWd
set_option linter.unusedVariables false
set_option linter.unusedSimpArgs false
namespace Go.Proofs.Ytljihicdoneniaa
variable {G : Cx} {T : Tab}

/-- Operations whose answer hangs on the frame alone. -/
def pureOp : Op → Bool
  | .move _ | .assign _ | .pick .. | .binOp .. | .unOp .. | .nilCheck _ | .fieldAddr .. | .indexAddr .. | .index .. | .extract .. | .slice .. | .sliceToArrayPointer .. | .makeFunc .. | .build .. => true
  | .call c => match c.callee with
    | .builtin _ => true
    | _ => false
  | _ => false
theorem pvc_pure {hs : Hp} {env : Env} {op : Op} {K : Value → Prop} (hp : pureOp op = true) (h : pvc G T hs env op K) (G' : Cx) (hs' : Hp) : pvc G' T hs' env op K := by
  cases op <;> simp only [pureOp] at hp <;> first | exact h | (exact absurd hp (by decide))

def dsts (l : List Oper) : List Nat := l.filterMap (·.dst)
def edgeB (o : Oper) (i : Nat) : Bool := o.after.toList.any fun e => Region.binds .any e && e.on == i
/-- What the order must bear: each edge leads back; each slot is written once, ahead of what looks at it, and that waits for it; the tail is a chain, and waits for all that reads memory. -/
def drawAt (all : List Oper) (n : Nat) (j : Nat) (o : Oper) : Bool :=
  (o.after.toList.all fun e => !Region.binds .any e || decide (e.on < j)) &&
  (match o.dst with | some d => !(dsts (all.drop (j + 1))).contains d | none => true) &&
  ((o.looksAt all.toArray).all fun t => !(dsts (all.drop j)).contains t && (all.take j).zipIdx.all fun (x, i) => x.dst != some t || edgeB o i) &&
  (decide (j ≤ n) || edgeB o (j - 1)) &&
  (decide (n ≤ j) || pureOp o.op || (match all[n]? with | some x => edgeB x j | none => true)) &&
  (match o.op with | .select .. => false | _ => true)
def drawB (all : List Oper) (n : Nat) : Bool := all.zipIdx.all fun (o, j) => drawAt all n j o

structure DrawOK (all : List Oper) (n j : Nat) (o : Oper) : Prop where
  back : ∀ e ∈ o.after, Region.binds .any e = true → e.on < j
  once : ∀ d, o.dst = some d → d ∉ dsts (all.drop (j + 1))
  late : ∀ t ∈ o.looksAt all.toArray, t ∉ dsts (all.drop j)
  waits : ∀ t ∈ o.looksAt all.toArray, ∀ i x, i < j → all[i]? = some x → x.dst = some t → edgeB o i = true
  chain : n < j → edgeB o (j - 1) = true
  sink : j < n → pureOp o.op = true ∨ ∀ x, all[n]? = some x → edgeB x j = true
  sel : ∀ cs b, o.op ≠ .select cs b
theorem drawB_spec {all : List Oper} {n : Nat} (h : drawB all n = true) {j : Nat} {o : Oper} (ho : all[j]? = some o) : DrawOK all n j o := by
  have h1 : drawAt all n j o = true := by
    unfold drawB at h
    rw [List.all_eq_true] at h
    exact h (o, j) (List.mem_zipIdx_iff_getElem?.2 ho)
  unfold drawAt at h1
  simp only [Bool.and_eq_true] at h1
  obtain ⟨⟨⟨⟨⟨a1, a2⟩, a3⟩, a4⟩, a5⟩, a6⟩ := h1
  refine ⟨?_, ?_, ?_, ?_, ?_, ?_, ?_⟩
  · intro e he hb
    have := List.all_eq_true.1 a1 e (Array.mem_toList_iff.2 he)
    simpa [hb] using this
  · intro d hd
    rw [hd] at a2
    simpa using a2
  · intro t ht
    have := List.all_eq_true.1 a3 t ht
    simp only [Bool.and_eq_true] at this
    simpa using this.1
  · intro t ht i x hi hx hd
    have := List.all_eq_true.1 a3 t ht
    simp only [Bool.and_eq_true] at this
    have h2 := List.all_eq_true.1 this.2 (x, i) (List.mem_zipIdx_iff_getElem?.2 (by rw [List.getElem?_take, if_pos hi]; exact hx))
    simpa [hd] using h2
  · intro hj
    simp only [Bool.or_eq_true, decide_eq_true_eq] at a4
    rcases a4 with h | h
    · omega
    · exact h
  · intro hj
    simp only [Bool.or_eq_true, decide_eq_true_eq] at a5
    rcases a5 with (h | h) | h
    · omega
    · exact .inl h
    · refine .inr fun x hx => ?_
      rw [hx] at h
      exact h
  · intro cs b hsel
    rw [hsel] at a6
    exact absurd a6 (by simp)
theorem edge_out {o : Oper} {i : Nat} (h : edgeB o i = true) : ∃ e ∈ o.after, Region.binds .any e = true ∧ e.on = i := by
  unfold edgeB at h
  obtain ⟨e, he, hb⟩ := List.any_eq_true.1 h
  simp only [Bool.and_eq_true, beq_iff_eq] at hb
  exact ⟨e, Array.mem_toList_iff.1 he, hb.1, hb.2⟩

/-! ### What comes first -/
def qone (G : Cx) (T : Tab) (hs : Hp) (env : Env) (op : Op) (K : Value → Prop) : Prop := match op with
  | .call c => match c.callee with
    | .value f => evK env f fun vf => evAllK env c.args.toList fun vs => targetK vf vs fun n l => match T.has n with
      | true => QuietVC G hs n l K
      | false => False
    | _ => pvc G T hs env op K
  | _ => xvc G T hs env op K
def qVC (G : Cx) (T : Tab) (N : Nat) (all : List Oper) (hs : Hp) (l : List Oper) : Env → (Env → Prop) → Prop :=
  List.rec (motive := fun _ => Env → (Env → Prop) → Prop) (fun env K => K env) (fun o _ ih env K => guardK all env o.guard (qone G T hs env o.op fun v => dstK N o.dst v env fun env' => ih env' K)
      (dstK N o.dst undef env fun env' => ih env' K)) l

/-- What an operation of the first part hands back, whenever it comes. -/
def QRun (G : Cx) (hs : Hp) (ρ : Operand → Value) (o : Oper) (v : Value) : Prop :=
  (∀ w, St G hs w → (execOp ρ o).run G.P w = .ok (.value v) w ∨ ∃ f args, (execOp ρ o).run G.P w = .ok (.enter f args) w ∧ Calls G.P f args w fun e w' => e = .returned v ∧ St G hs w') ∧
  (pureOp o.op = true → ∀ w, (execOp ρ o).run G.P w = .ok (.value v) w)
/-- Answers that hang on no world. -/
def wvc (P : Program) {α : Type} : Sem α → (α → Prop) → Prop
  | .pure a, K => K a
  | .program k, K => wvc P (k P) K
  | .mark _ k, K => wvc P k K
  | _, _ => False
theorem wvc_sound {P : Program} {α : Type} (m : Sem α) : ∀ (K : α → Prop), wvc P m K → ∃ a, (∀ w, m.run P w = .ok a w) ∧ K a := by
  induction m with
  | pure a => intro K h; exact ⟨a, fun _ => rfl, h⟩
  | program k ih => intro K h; exact ih _ K h
  | mark m k ih => intro K h; exact ih K h
  | _ => intro K h; exact h.elim
def bareW : World := { (default : World) with heap := #[] }
theorem st_bare (P : Program) : St ⟨P, bareW, []⟩ [] bareW :=
  ⟨rfl, rfl, rfl, Nat.le_refl _, fun _ _ _ => rfl, (by simp), List.nodup_nil, (by simp)⟩
theorem wvc_of_qvc {P : Program} {α : Type} (m : Sem α) : ∀ (K : α → Prop), qvc ⟨P, bareW, []⟩ m [] K → wvc P m K := by
  induction m with
  | pure a => intro K h; exact h
  | load m a k ih =>
    rintro K ⟨v, hv, h⟩
    have := hv _ (st_bare P)
    simp [World.cell?, bareW] at this
  | shape r k ih => rintro K ⟨e, he, _⟩; cases he
  | program k ih => intro K h; exact ih _ K h
  | mark m k ih => intro K h; exact ih K h
  | _ => intro K h; exact h.elim
theorem pvc_qrun {hs : Hp} {env : Env} {ρ : Operand → Value} {o : Oper} {K : Value → Prop} (hT : TabOK G.P T) (hρ : Agrees ρ env) (h : pvc G T hs env o.op K) : ∃ v, QRun G hs ρ o v ∧ K v := by
  obtain ⟨dst, op, ty, pos, after, guard⟩ := o
  by_cases hp : pureOp op = true
  · have h1 := pvc_pure hp h ⟨G.P, bareW, []⟩ []
    have h2 := pvc_sound (G := ⟨G.P, bareW, []⟩) (dst := dst) (ty := ty) (pos := pos) (after := after) (guard := guard) hT hρ h1
    obtain ⟨nx, hr, v, rfl, hk⟩ := wvc_sound _ _ (wvc_of_qvc _ _ h2)
    exact ⟨v, ⟨fun w _ => .inl (hr w), fun _ w => hr w⟩, hk⟩
  · obtain ⟨nx, hr, v, rfl, hk⟩ := qvc_sound _ _ _ (pvc_sound (dst := dst) (ty := ty) (pos := pos) (after := after) (guard := guard) hT hρ h)
    exact ⟨v, ⟨fun w hw => .inl (hr w hw), fun h => absurd h hp⟩, hk⟩
theorem xvc_qrun {hs : Hp} {env : Env} {ρ : Operand → Value} {o : Oper} {K : Value → Prop} (hT : TabOK G.P T) (hρ : Agrees ρ env) (h : xvc G T hs env o.op K) : ∃ v, QRun G hs ρ o v ∧ K v := by
  unfold xvc at h
  split at h
  · rename_i bop t x y yt hop
    obtain ⟨vx, hx, h⟩ := evK_some h
    split at h
    · rename_i xs
      obtain ⟨vy, hy, h⟩ := evK_some h
      split at h
      · rename_i ys
        have hcx := hρ _ _ hx
        have hcy := hρ _ _ hy
        obtain ⟨v, hr, hk⟩ := agg_run (P := G.P) (x := x) (y := y) hT.eqs h
        obtain ⟨dst, op, ty, pos, after, guard⟩ := o
        simp only at hop
        subst hop
        have hall : ∀ w, (execOp ρ ⟨dst, .binOp bop t x y yt, ty, pos, after, guard⟩).run G.P w = .ok (.value v) w := by
          intro w
          simp only [execOp, hcx, hcy]
          exact run_bind _ _ (hr w)
        exact ⟨v, ⟨fun w _ => .inl (hall w), fun _ w => hall w⟩, hk⟩
      · exact h.elim
    · exact pvc_qrun hT hρ (by rw [hop]; exact h)
  · exact pvc_qrun hT hρ h
theorem qone_qrun {hs : Hp} {env : Env} {ρ : Operand → Value} {o : Oper} {K : Value → Prop} (hT : TabOK G.P T) (hρ : Agrees ρ env) (h : qone G T hs env o.op K) : ∃ v, QRun G hs ρ o v ∧ K v := by
  unfold qone at h
  split at h
  · rename_i c hop
    split at h
    · rename_i f hcal
      have h1 := evAllK_out hρ _ _ (evK_out hρ h)
      have hnp : pureOp o.op = true → False := by rw [hop]; simp [pureOp, hcal]
      obtain ⟨n, l, hk, hr⟩ : ∃ n l, (match T.has n with | true => QuietVC G hs n l K | false => False) ∧ ∀ w, callable G.P n → (execOp ρ o).run G.P w = .ok (.enter n l.toArray) w := by
        unfold targetK at h1
        split at h1
        · rename_i fn first captured hf
          have main : ∀ n, fn = .func n → (match T.has n with | true => QuietVC G hs n (first.toList ++ c.args.toList.map ρ ++ captured.toList) K | false => False) →
              ∃ n l, (match T.has n with | true => QuietVC G hs n l K | false => False) ∧ ∀ w, callable G.P n → (execOp ρ o).run G.P w = .ok (.enter n l.toArray) w := by
            rintro n rfl hk
            refine ⟨n, _, hk, fun w hcl => ?_⟩
            have e : first ++ c.args.map ρ ++ captured = (first.toList ++ c.args.toList.map ρ ++ captured.toList).toArray := by
              apply Array.ext'; simp
            obtain ⟨dst, op, ty, pos, after, guard⟩ := o
            simp only at hop
            subst hop
            simp only [execOp, resolve, hcal, hf, Deferred.ofValue, bind, Sem.bind, pure, invoke]
            rw [callFunc_run hcl, e]
          split at h1
          · rename_i fn' f' h2 h3
            refine main f' rfl ?_
            rw [h2, h3]
            simpa using h1
          · exact main _ rfl h1
          · exact h1.elim
        · exact h1.elim
      split at hk
      · rename_i hlt
        have hcl := hT.fns n hlt
        rw [QuietVC_eq] at hk
        obtain ⟨v, h2, h3⟩ := hk
        exact ⟨v, ⟨fun w hw => .inr ⟨n, l.toArray, hr w hcl, h2 w hw⟩, fun hp => (hnp hp).elim⟩, h3⟩
      · exact hk.elim
    · exact pvc_qrun hT hρ (by rw [hop]; rw [hop] at *; exact h)
  · exact xvc_qrun hT hρ h

/-- An operation of the first part, as the frame behind all of that part tells it. -/
structure QFact (G : Cx) (hs : Hp) (all : List Oper) (F : Act) (o : Oper) (v : Value) : Prop where
  slot : ∀ d, o.dst = some d → d < F.tmps.size ∧ F.tmps[d]? = some v
  does : (Region.wanted o (yielded all.toArray F.tmps) = true ∧ QRun G hs F.eval o v) ∨ (Region.wanted o (yielded all.toArray F.tmps) = false ∧ v = undef)

/-- Frames that agree on what an operation looks at. -/
theorem same_exec {all : List Oper} {o : Oper} {a b : Act} (hsel : ∀ cs b, o.op ≠ .select cs b) (h : ∀ t ∈ o.looksAt all.toArray, a.tmps[t]? = b.tmps[t]?) : execOp a.eval o = execOp b.eval o := by
  refine execOp_congr o hsel fun x hx => ?_
  cases x with
  | tmp t =>
    have := h t (List.mem_append_left _ (List.mem_filterMap.2 ⟨.tmp t, by simpa using hx, rfl⟩))
    simp only [Act.eval, Array.getD_eq_getD_getElem?, this]
  | _ => rfl
theorem same_wanted {all : List Oper} {o : Oper} {a b : Act} (h : ∀ t ∈ o.looksAt all.toArray, a.tmps[t]? = b.tmps[t]?) :
    Region.wanted o (yielded all.toArray a.tmps) = Region.wanted o (yielded all.toArray b.tmps) := by
  unfold Region.wanted
  cases hg : o.guard with
  | none => rfl
  | some gw =>
    obtain ⟨g, want⟩ := gw
    have hy : yielded all.toArray a.tmps g = yielded all.toArray b.tmps g := by
      unfold yielded
      cases ht : (all.toArray[g]?).bind (·.dst) with
      | none => rfl
      | some t =>
        have := h t (by unfold Oper.looksAt; rw [hg]; refine List.mem_append_right _ ?_; simp only [ht]; simp)
        simp only [Option.bind_some, this]
    simp only [hy]
theorem put_other {a : Act} {dst : Option Nat} {v : Value} {t : Nat} (h : dst ≠ some t) : (a.put dst v).tmps[t]? = a.tmps[t]? := by
  cases dst with
  | none => rfl
  | some d => exact Array.getElem?_setIfInBounds_ne (fun hd => h (by rw [hd]))

end Go.Proofs.Ytljihicdoneniaa
