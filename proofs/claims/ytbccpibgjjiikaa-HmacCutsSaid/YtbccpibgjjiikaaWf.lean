/-
  A region whose order is open: one walk by a plan serves every order.
-/
import Derived.Test.YtbccpibgjjiikaaWe
set_option linter.unusedVariables false
set_option linter.unusedSimpArgs false
namespace Go.Proofs.Ytbccpibgjjiikaa
variable {G : Cx} {T : Tab} {r : Option Nat} {ds : List Deferred}

/-- How many are still to come. -/
def todo (m : Nat) (listed : Array Bool) : Nat := ((List.range m).filter fun i => !listed.getD i true).length
theorem todo_set {m i : Nat} {listed : Array Bool} (hi : i < m) (hs : listed.size = m) (hu : listed.getD i true = false) : todo m (listed.setIfInBounds i true) < todo m listed := by
  unfold todo
  have h1 : (List.range m).filter (fun j => !(listed.setIfInBounds i true).getD j true) = ((List.range m).filter fun j => !listed.getD j true).filter (fun j => decide (j ≠ i)) := by
    rw [List.filter_filter]
    refine List.filter_congr fun j hj => ?_
    by_cases hji : j = i
    · subst hji
      simp [Array.getD_eq_getD_getElem?, Array.getElem?_setIfInBounds_self_of_lt (show j < listed.size by omega)]
    · simp [Array.getD_eq_getD_getElem?, Array.getElem?_setIfInBounds_ne (fun h => hji h.symm), hji]
  rw [h1]
  refine List.length_filter_lt_length_iff_exists.2 ⟨i, ?_, by simp⟩
  rw [List.mem_filter]
  exact ⟨List.mem_range.2 hi, by rw [hu]; rfl⟩
theorem getD_lt {listed : Array Bool} {m i : Nat} (hs : listed.size = m) (hi : i < m) : listed.getD i true = listed.getD i false := by
  simp [Array.getD_eq_getD_getElem?, Array.getElem?_eq_getElem (show i < listed.size by omega)]
theorem getD_set {listed : Array Bool} {i j : Nat} : (listed.setIfInBounds i true).getD j false = true → j = i ∨ listed.getD j false = true := by
  intro h
  by_cases hji : j = i
  · exact .inl hji
  · right
    simpa [Array.getD_eq_getD_getElem?, Array.getElem?_setIfInBounds_ne (fun h => hji h.symm)] using h
theorem getD_set' {listed : Array Bool} {i j m : Nat} (hs : listed.size = m) (hj : j < m) (h : j = i ∨ listed.getD j false = true) : (listed.setIfInBounds i true).getD j false = true := by
  by_cases hji : j = i
  · subst hji
    simp [Array.getD_eq_getD_getElem?, Array.getElem?_setIfInBounds_self_of_lt (show j < listed.size by omega)]
  · rcases h with h | h
    · exact absurd h hji
    · simpa [Array.getD_eq_getD_getElem?, Array.getElem?_setIfInBounds_ne (fun h => hji h.symm)] using h
/-! ### What has been reckoned -/
def In (V : List Bool) (i : Nat) : Prop := V[i]? = some true
theorem in_set {V : List Bool} {i j : Nat} (hj : j < V.length) : In (V.set j true) i ↔ i = j ∨ In V i := by
  unfold In
  rw [List.getElem?_set]
  by_cases h : j = i
  · subst h; simp [hj]
  · rw [if_neg h]
    constructor
    · exact .inr
    · rintro (rfl | h'); exact absurd rfl h; exact h'
theorem ready_in {V : List Bool} {o : Oper} : readyB V o = true ↔ ∀ i ∈ bindsOf o, In V i := by
  simp only [readyB, List.all_eq_true, In]
  refine forall_congr' fun i => forall_congr' fun _ => ?_
  rw [List.getD_eq_getElem?_getD]
  cases V[i]? with
  | none => simp
  | some b => simp
theorem notin_getD {V : List Bool} {i : Nat} (h : V.getD i true = false) : i < V.length ∧ ¬ In V i := by
  rw [List.getD_eq_getElem?_getD] at h
  unfold In
  cases hv : V[i]? with
  | none => rw [hv] at h; cases h
  | some b => rw [hv] at h; exact ⟨(List.getElem?_eq_some_iff.1 hv).1, by rintro ⟨⟩; cases h⟩
theorem in_getD {V : List Bool} {i : Nat} (hl : i < V.length) (h : V.getD i true = true) : In V i := by
  rw [List.getD_eq_getElem?_getD, List.getElem?_eq_getElem hl] at h
  unfold In
  rw [List.getElem?_eq_getElem hl]
  exact congrArg some h
theorem open_spec {all : List Oper} {V : List Bool} {i : Nat} (h : openB all V i = true) : ∃ o, all[i]? = some o ∧ onth all i = some o ∧ i < V.length ∧ ¬ In V i ∧ ∀ j ∈ bindsOf o, In V j := by
  unfold openB at h
  split at h
  · rename_i o ho
    simp only [Bool.and_eq_true, Bool.not_eq_true'] at h
    obtain ⟨h1, h2⟩ := notin_getD h.1
    exact ⟨o, by rw [onth_eq]; exact ho, ho, h1, h2, ready_in.1 h.2⟩
  · cases h
theorem only_spec {all : List Oper} {V : List Bool} {l : List Nat} (hV : V.length = all.length) (h : onlyB all V l = true) {i : Nat} {o : Oper} (ho : all[i]? = some o) (hn : ¬ In V i) (hr : ∀ j ∈ bindsOf o, In V j) : i ∈ l := by
  have := List.all_eq_true.1 h (o, i) (List.mem_zipIdx_iff_getElem?.2 ho)
  have hlt : i < V.length := by rw [hV]; exact (List.getElem?_eq_some_iff.1 ho).1
  simp only [Bool.or_eq_true, Bool.not_eq_true', List.contains_iff_mem] at this
  rcases this with (h1 | h1) | h1
  · exact absurd (in_getD hlt h1) hn
  · rw [ready_in.2 hr] at h1; cases h1
  · exact h1
/-- A set of operations that holds with each one all that it waits for. -/
def Closed (all : List Oper) (S : Nat → Prop) : Prop := ∀ i o, S i → all[i]? = some o → ∀ j ∈ bindsOf o, S j
theorem ancs_in {all : List Oper} {S : Nat → Prop} (hS : Closed all S) : ∀ (k : Nat) (A : List Nat), (∀ i ∈ A, S i) → ∀ i ∈ ancs all k A, S i
  | 0, A, h => h
  | k + 1, A, h => by
    unfold ancs
    refine ancs_in hS k _ ?_
    split
    · rename_i hk
      split
      · rename_i o ho
        intro i hi
        rcases List.mem_append.1 hi with hi | hi
        · exact h i hi
        · exact hS k o (h k (by simpa using hk)) (by rw [onth_eq]; exact ho) i hi
      · exact h
    · exact h
theorem safe_spec {all : List Oper} {V : List Bool} {i : Nat} {o : Oper} (hV : V.length = all.length) (h : safeB all V i = true) (ho : all[i]? = some o) {S : Nat → Prop} (hS : Closed all S) (hd : ∀ j ∈ bindsOf o, S j) :
    ∀ k x, all[k]? = some x → In V k → pureOp x.op = true ∨ S k := by
  intro k x hx hk
  unfold safeB at h
  rw [← onth_eq, ho] at h
  dsimp only at h
  have := List.all_eq_true.1 h (x, k) (List.mem_zipIdx_iff_getElem?.2 hx)
  simp only [Bool.or_eq_true, Bool.not_eq_true', List.contains_iff_mem] at this
  rcases this with (h1 | h1) | h1
  · exact absurd hk (notin_getD h1).2
  · exact .inl h1
  · exact .inr (ancs_in hS _ _ hd k h1)

/-! ### The walk by a plan -/
def wkK (safe : Bool) (hs hs' : Hp) (K : Prop) : Prop := match safe with
  | true => K
  | false => Need (hs.Sublist hs') K
structure Both (p q : Prop) : Prop where mk ::
  fst : p
  snd : q
def planVC (G : Cx) (T : Tab) (N : Nat) (all : List Oper) (p : Plan) : Env → Hp → (Env → Hp → Prop) → Prop :=
  Plan.rec (motive := fun _ => Env → Hp → (Env → Hp → Prop) → Prop) (fun env hs K => K env hs)
    (fun j _ ih env hs K => match onth all j with
      | some o => guardK all env o.guard (qone G T hs env o.op fun v => dstK N o.dst v env fun env' => ih env' hs K) (dstK N o.dst undef env fun env' => ih env' hs K)
      | none => False)
    (fun i safe _ ih env hs K => match onth all i with
      | some o => guardK all env o.guard (evc G T hs env o.op fun v hs' => wkK safe hs hs' (dstK N o.dst v env fun env' => ih env' hs' K)) (dstK N o.dst undef env fun env' => ih env' hs K)
      | none => False)
    (fun i _ j _ ih jh env hs K => Both
      (match onth all i with
      | some o => guardK all env o.guard (evc G T hs env o.op fun v hs' => wkK false hs hs' (dstK N o.dst v env fun env' => ih env' hs' K)) (dstK N o.dst undef env fun env' => ih env' hs K)
      | none => False)
      (match onth all j with
      | some o => guardK all env o.guard (evc G T hs env o.op fun v hs' => wkK false hs hs' (dstK N o.dst v env fun env' => jh env' hs' K)) (dstK N o.dst undef env fun env' => jh env' hs K)
      | none => False)) p
theorem put_same {a b : Act} {d : Nat} {v : Value} (h : a.tmps.size = b.tmps.size) : (a.put (some d) v).tmps[d]? = (b.put (some d) v).tmps[d]? := by
  show (a.tmps.setIfInBounds d v)[d]? = (b.tmps.setIfInBounds d v)[d]?
  by_cases hlt : d < a.tmps.size
  · rw [Array.getElem?_setIfInBounds_self_of_lt hlt, Array.getElem?_setIfInBounds_self_of_lt (h ▸ hlt)]
  · rw [Array.getElem?_eq_none (by rw [Array.size_setIfInBounds]; exact Nat.le_of_not_lt hlt), Array.getElem?_eq_none (by rw [Array.size_setIfInBounds, ← h]; exact Nat.le_of_not_lt hlt)]
/-- An operation that was reckoned and is still to come. -/
structure Pend (G : Cx) (all : List Oper) (hs : Hp) (b : Act) (j : Nat) (o : Oper) : Prop where wrap ::
  anti : Anti all j o
  raw : ∃ v hs0, (∀ d, o.dst = some d → b.tmps[d]? = some v) ∧
    ((Region.wanted o (yielded all.toArray b.tmps) = true ∧ QRun G hs0 b.eval o v ∧ (pureOp o.op = true ∨ ∀ w, St G hs w → St G hs0 w)) ∨ (Region.wanted o (yielded all.toArray b.tmps) = false ∧ v = undef))
structure Inv (G : Cx) (T : Tab) (ds : List Deferred) (N : Nat) (all : List Oper) (K : Env → Hp → Prop) (listed : Array Bool) (a : Act) (w : World) (V : List Bool) (p : Plan) (b : Act) (env : Env) (hs : Hp) : Prop where
  size : listed.size = all.length
  vsize : V.length = all.length
  asize : a.tmps.size = N
  adef : a.defers = ds
  sub : ∀ i, listed.getD i false = true → In V i
  closedL : Closed all fun i => listed.getD i false = true
  closedV : Closed all (In V)
  fits : Fits ds N env b
  st : St G hs w
  vc : planVC G T N all p env hs K
  pb : planB all p V = true
  pend : ∀ (i : Nat) (o : Oper), all[i]? = some o → In V i → listed.getD i false = false → Pend G all hs b i o
  same : ∀ t, (∀ (i : Nat) (o : Oper), all[i]? = some o → In V i → listed.getD i false = false → o.dst ≠ some t) → a.tmps[t]? = b.tmps[t]?
variable {N : Nat} {all : List Oper} {K : Env → Hp → Prop}
theorem closed_set {V : List Bool} {i : Nat} {o : Oper} (hV : Closed all (In V)) (hi : i < V.length) (ho : all[i]? = some o) (hd : ∀ j ∈ bindsOf o, In V j) : Closed all (In (V.set i true)) := by
  intro k x hk hx j hj
  rw [in_set hi] at hk ⊢
  rcases hk with rfl | hk
  · rw [ho] at hx; cases hx; exact .inr (hd j hj)
  · exact .inr (hV k x hk hx j hj)
/-- A pending operation bears that a slot is written that it does not look at. -/
theorem Pend.put (hW : wellB all = true) {hs hs' : Hp} {b : Act} {i k : Nat} {o x : Oper} {v : Value} {V : List Bool} (hV : Closed all (In V)) (hx : all[k]? = some x) (hk : In V k) (ho : all[i]? = some o) (hi : ¬ In V i)
    (hw : ∀ t ∈ x.looksAt all.toArray, o.dst ≠ some t)
    (h : Pend G all hs b k x) (hst : pureOp x.op = true ∨ ∀ w, St G hs' w → St G hs w) : Pend G all hs' (b.put o.dst v) k x := by
  obtain ⟨u, hs0, h1, h2⟩ := h.raw
  have D := wellB_spec hW hx
  have hlook : ∀ t ∈ x.looksAt all.toArray, (b.put o.dst v).tmps[t]? = b.tmps[t]? := fun t ht => put_other (hw t ht)
  have hne : k ≠ i := by rintro rfl; exact hi hk
  refine ⟨h.anti, u, hs0, fun d hd => ?_, ?_⟩
  · rw [put_other, h1 d hd]
    intro hd'
    rcases Nat.lt_or_ge k i with h3 | h3
    · exact D.once d hd i o h3 ho hd'
    · exact (wellB_spec hW ho).once d hd' k x (by omega) hx hd
  · rw [same_wanted hlook]
    rcases h2 with ⟨h3, h4, h5⟩ | h3
    · refine .inl ⟨h3, ⟨fun hs1 w hw h6 => ?_, fun hp w => ?_⟩, ?_⟩
      · rw [same_exec D.sel hlook]; exact h4.1 hs1 w hw h6
      · rw [same_exec D.sel hlook]; exact h4.2 hp w
      · rcases h5 with h5 | h5
        · exact .inl h5
        · rcases hst with hst | hst
          · exact .inl hst
          · exact .inr fun w hw => h5 w (hst w hw)
    · exact .inr h3
/-- The reckoning goes ahead on what only reads. -/
theorem Inv.ahead (hT : TabOK G.P T) (hW : wellB all = true) {listed : Array Bool} {a : Act} {w : World} : ∀ (p : Plan) (V : List Bool) (b : Act) (env : Env) (hs : Hp), Inv G T ds N all K listed a w V p b env hs →
    ∃ V' p' b' env', Inv G T ds N all K listed a w V' p' b' env' hs ∧ (∀ j r, p' ≠ .q j r)
  | .done, V, b, env, hs, I => ⟨V, .done, b, env, I, fun _ _ h => by cases h⟩
  | .one i s r, V, b, env, hs, I => ⟨V, .one i s r, b, env, I, fun _ _ h => by cases h⟩
  | .two i r j s, V, b, env, hs, I => ⟨V, .two i r j s, b, env, I, fun _ _ h => by cases h⟩
  | .q j r, V, b, env, hs, I => by
    have hpb := I.pb
    unfold planB at hpb
    simp only [Bool.and_eq_true] at hpb
    obtain ⟨o, ho, hon, hj, hjn, hd⟩ := open_spec hpb.1.1.1
    have hanti := anti_spec hpb.1.1.2 ho
    have hvc : guardK all env o.guard (qone G T hs env o.op fun v => dstK N o.dst v env fun env' => planVC G T N all r env' hs K) (dstK N o.dst undef env fun env' => planVC G T N all r env' hs K) := by
      have := I.vc
      change (match onth all j with
        | some o => guardK all env o.guard (qone G T hs env o.op fun v => dstK N o.dst v env fun env' => planVC G T N all r env' hs K) (dstK N o.dst undef env fun env' => planVC G T N all r env' hs K)
        | none => False) at this
      rwa [hon] at this
    have D := wellB_spec hW ho
    have hnl : listed.getD j false = false := by
      cases h : listed.getD j false with
      | false => rfl
      | true => exact absurd (I.sub j h) hjn
    obtain ⟨v, env1, hq, hf1, hrest, hlt⟩ : ∃ v env1, ((Region.wanted o (yielded all.toArray b.tmps) = true ∧ QRun G hs b.eval o v) ∨ (Region.wanted o (yielded all.toArray b.tmps) = false ∧ v = undef)) ∧
        Fits ds N env1 (b.put o.dst v) ∧ planVC G T N all r env1 hs K ∧ ∀ d, o.dst = some d → d < N := by
      have hN : ∀ {v : Value} {K' : Env → Prop}, dstK N o.dst v env K' → ∀ d, o.dst = some d → d < N := by
        intro v K' h d hd
        unfold dstK at h
        rw [hd] at h
        dsimp only at h
        split at h
        · rename_i hb; simpa using hb
        · exact h.elim
      rcases guardK_out I.fits hvc with ⟨hw, hrun⟩ | ⟨hw, hskip⟩
      · obtain ⟨v, hv, hd⟩ := qone_qrun hT I.fits.agrees hrun
        obtain ⟨env1, h1, h2⟩ := dstK_out I.fits hd
        exact ⟨v, env1, .inl ⟨hw, hv⟩, h2, h1, hN hd⟩
      · obtain ⟨env1, h1, h2⟩ := dstK_out I.fits hskip
        exact ⟨undef, env1, .inr ⟨hw, rfl⟩, h2, h1, hN hskip⟩
    have hself : ∀ t ∈ o.looksAt all.toArray, (b.put o.dst v).tmps[t]? = b.tmps[t]? := fun t ht => put_other fun hdt => hjn (hd j (hanti j o ho t ht hdt))
    refine Inv.ahead hT hW r (V.set j true) (b.put o.dst v) env1 hs ⟨I.size, by simp [I.vsize], I.asize, I.adef, fun i hi => (in_set hj).2 (.inr (I.sub i hi)), I.closedL, closed_set I.closedV hj ho hd, hf1, I.st, hrest, hpb.2, ?_, ?_⟩
    · intro k x hx hk hun
      rcases (in_set hj).1 hk with rfl | hk
      · rw [ho] at hx
        obtain rfl := Option.some.inj hx
        refine ⟨hanti, v, hs, fun d hdd => ?_, ?_⟩
        · rw [hdd]
          exact Array.getElem?_setIfInBounds_self_of_lt (by rw [I.fits.size]; exact hlt d hdd)
        · rw [same_wanted hself]
          rcases hq with ⟨h1, h2⟩ | h1
          · refine .inl ⟨h1, ⟨fun hs1 w hw h6 => ?_, fun hp w => ?_⟩, .inr fun w hw => hw⟩
            · rw [same_exec D.sel hself]; exact h2.1 hs1 w hw h6
            · rw [same_exec D.sel hself]; exact h2.2 hp w
          · exact .inr h1
      · exact (I.pend k x hx hk hun).put hW I.closedV hx hk ho hjn (fun t ht hdt => hjn (I.closedV k x hk hx j (hanti k x hx t ht hdt))) (.inr fun w hw => hw)
    · intro t ht
      have hne : o.dst ≠ some t := ht j o ho ((in_set hj).2 (.inl rfl)) hnl
      rw [put_other hne]
      exact I.same t fun i x hx hi hun => ht i x hx ((in_set hj).2 (.inr hi)) hun
end Go.Proofs.Ytbccpibgjjiikaa
