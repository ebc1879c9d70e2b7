/-
  copy; the bytes of a text; calls; the operations that write, make memory or call, as one law.
-/
import Derived.Test.YtbccpibgjjiikaaVz
set_option linter.unusedVariables false
set_option linter.unusedSimpArgs false
namespace Go.Proofs.Ytbccpibgjjiikaa
variable {G : Cx} {hs : Hp} {T : Tab} {env : Env} {ρ : Operand → Value}

structure CopyVC (G : Cx) (hs : Hp) (t tx : Nat) (d x : Value) (K : Value → Hp → Prop) : Prop where wrap ::
  raw : ∀ ty, Does G (Builtin.copy_ #[t, tx] ty #[d, x]) hs K
theorem CopyVC_eq (G : Cx) (hs : Hp) (t tx : Nat) (d x : Value) (K : Value → Hp → Prop) : CopyVC G hs t tx d x K = (∀ ty, Does G (Builtin.copy_ #[t, tx] ty #[d, x]) hs K) := propext ⟨fun h => h.raw, fun h => ⟨h⟩⟩
theorem CopyVC.all {t tx e n m c : Nat} {i j : TyI} {A : Option Addr} {x : Value} {ys : List Value} {K : Value → Hp → Prop} (hT : TabOK G.P T) (hi : look T.ts t = some i) (hd : i.d = .slice e) (hj : look T.ts e = some j)
    (hx : Holds G hs j.size x m ys) (hm : m ≤ n) (hA : ∀ a, A = some a → StoreVC G hs a ys fun hs' => K (.int .i64 m) hs') (h0 : A = none → K (.int .i64 m) hs) :
    CopyVC G hs t tx (.slice A n c) x K := by
  rw [CopyVC_eq]
  intro ty
  have hdd := look_desc hT hi
  simp only [hd, descOk] at hdd
  unfold Builtin.copy_
  simp only [List.getElem?_toArray, List.getElem?_cons_zero, List.getElem?_cons_succ]
  refine Does.bind (Does.quiet (q_underlying hdd ?_))
  dsimp only
  refine Does.bind (m := Builtin.lenOf x) (Does.quiet (q_lenOf hx ?_))
  refine Does.bind (Does.quiet (q_sizeOf (hT.ts e j hj) ?_))
  have hmin : m.min n = m := Nat.min_eq_left hm
  rw [hmin]
  refine Does.bind (m := Builtin.firstCells j.size m x) (Does.quiet (q_firstCells hx ?_))
  cases A with
  | none => exact Does.pure (h0 rfl)
  | some a =>
    have h3 := hA a rfl
    rw [StoreVC_eq] at h3
    refine Does.bind (m := storeCells a ys.toArray.toList) (f := fun _ => pure _) ?_
    exact h3.mono fun _ hs' hk => Does.pure hk

def byteCells (s : ByteArray) : List Value := s.data.toList.map fun b => .int .u8 b.toNat
theorem does_bytes {e : Nat} {s : ByteArray} {K : Value → Hp → Prop}
    (h : ∀ b cap, s.size ≤ cap → K (.slice (some ⟨b, 0, none⟩) s.size cap) (⟨b, byteCells s ++ List.replicate (cap - s.size) (.int .u8 0), e, (cap, cap + 1)⟩ :: hs)) :
    Does G (Conv.stringToBytes e s) hs K := by
  unfold Conv.stringToBytes
  have hch : ∀ {Kc : Nat → Hp → Prop}, (∀ c, s.size ≤ c → Kc c hs) → Does G (choose (.appendCap s.size 0 e)) hs Kc := by
    intro Kc hk
    refine does_of_svc (m := choose (.appendCap s.size 0 e)) ?_
    rintro c ⟨t', ht'⟩
    refine hk c ?_
    rw [ht']
    simp [Question.forced, Question.cut]
  refine Does.bind (hch fun c hc => ?_)
  dsimp only
  refine Does.bind (does_newRow fun b => ?_)
  have hsz : (s.data.map (fun b => Value.int .u8 b.toNat) ++ Array.replicate (c - s.size) (Value.int .u8 0)).toList = byteCells s ++ List.replicate (c - s.size) (.int .u8 0) := by
    unfold byteCells
    simp
  rw [hsz]
  have hlen : (byteCells s ++ List.replicate (c - s.size) (Value.int .u8 0)).length = c := by
    unfold byteCells
    rw [List.length_append, List.length_map, List.length_replicate, Array.length_toList]
    have : s.data.size = s.size := rfl
    omega
  refine Does.bind (m := markStringish ⟨b, 0, none⟩) ?_
  unfold markStringish
  refine does_of_svc ?_
  refine ⟨_, List.mem_cons_self .., rfl, ?_⟩
  rw [hlen]
  refine ⟨⟨b, byteCells s ++ List.replicate (c - s.size) (.int .u8 0), e, (c, c + 1)⟩ :: hs, ?_, Does.pure (h b c hc)⟩
  intro w hw
  have hb := hw.own _ (List.mem_cons_self ..)
  have hnd := hw.nodup
  simp only [List.map_cons, List.nodup_cons] at hnd
  have hfr : w.freeze ⟨b, c, none⟩ 1 = { w with heap := w.heap.modify b fun
      | .cells cs elem (lo, hi) => .cells cs elem (if lo == hi then (c, c + 1) else (min lo c, max hi (c + 1)))
      | o => o } := rfl
  rw [hfr]
  refine ⟨hw.os, hw.tape, hw.output, by simpa using hw.size, ?_, ?_, hw.nodup, ?_⟩
  · intro k hk hf
    have hne : b ≠ k := by
      rintro rfl
      rcases hw.new _ (List.mem_cons_self ..) with h | h
      · have : G.w0.heap.size ≤ b := h
        omega
      · exact hf h
    show (w.heap.modify b _)[k]? = _
    rw [Array.getElem?_modify, if_neg hne]
    exact hw.old k hk hf
  · intro x hx
    show (w.heap.modify b _)[x.b]? = _
    rcases List.mem_cons.1 hx with rfl | hx
    · rw [Array.getElem?_modify, if_pos rfl, hb]
      simp
    · have hne : b ≠ x.b := fun hh => hnd.1 (List.mem_map.2 ⟨x, hx, hh.symm⟩)
      rw [Array.getElem?_modify, if_neg hne]
      exact hw.own x (List.mem_cons_of_mem _ hx)
  · intro x hx
    rcases List.mem_cons.1 hx with rfl | hx
    · exact hw.new ⟨b, byteCells s ++ List.replicate (c - s.size) (.int .u8 0), e, (0, 0)⟩ (List.mem_cons_self ..)
    · exact hw.new x (List.mem_cons_of_mem _ hx)

/-- A row of bytes taken as another one of its type: the place behind it is marked. -/
structure MarkVC (G : Cx) (hs : Hp) (a : Addr) (K : Hp → Prop) : Prop where wrap ::
  raw : Does G (markStringish a) hs fun _ hs' => K hs'
theorem does_mark {b : Nat} {cs : List Value} {t : TypeId} {rest : Hp} {K : Hp → Prop} (h : K (⟨b, cs, t, (cs.length, cs.length + 1)⟩ :: rest)) : Does G (markStringish ⟨b, 0, none⟩) (⟨b, cs, t, (0, 0)⟩ :: rest) fun _ hs' => K hs' := by
  unfold markStringish
  refine does_of_svc ?_
  refine ⟨_, List.mem_cons_self .., rfl, ?_⟩
  refine ⟨⟨b, cs, t, (cs.length, cs.length + 1)⟩ :: rest, ?_, h⟩
  intro w hw
  have hb := hw.own _ (List.mem_cons_self ..)
  have hnd := hw.nodup
  simp only [List.map_cons, List.nodup_cons] at hnd
  have hfr : w.freeze ⟨b, cs.length, none⟩ 1 = { w with heap := w.heap.modify b fun
      | .cells cs' elem (lo, hi) => .cells cs' elem (if lo == hi then (cs.length, cs.length + 1) else (min lo cs.length, max hi (cs.length + 1)))
      | o => o } := rfl
  rw [hfr]
  refine ⟨hw.os, hw.tape, hw.output, by simpa using hw.size, ?_, ?_, hw.nodup, ?_⟩
  · intro k hk hf
    have hne : b ≠ k := by
      rintro rfl
      rcases hw.new _ (List.mem_cons_self ..) with h | h
      · have : G.w0.heap.size ≤ b := h
        omega
      · exact hf h
    show (w.heap.modify b _)[k]? = _
    rw [Array.getElem?_modify, if_neg hne]
    exact hw.old k hk hf
  · intro x hx
    show (w.heap.modify b _)[x.b]? = _
    rcases List.mem_cons.1 hx with rfl | hx
    · rw [Array.getElem?_modify, if_pos rfl, hb]
      simp
    · have hne : b ≠ x.b := fun hh => hnd.1 (List.mem_map.2 ⟨x, hx, hh.symm⟩)
      rw [Array.getElem?_modify, if_neg hne]
      exact hw.own x (List.mem_cons_of_mem _ hx)
  · intro x hx
    rcases List.mem_cons.1 hx with rfl | hx
    · exact hw.new ⟨b, cs, t, (0, 0)⟩ (List.mem_cons_self ..)
    · exact hw.new x (List.mem_cons_of_mem _ hx)
theorem MarkVC.at_ {b : Nat} {cs : List Value} {t : TypeId} {rest : Hp} {K : Hp → Prop} (ht : Take ⟨b, cs, t, (0, 0)⟩ hs rest) (h : K (⟨b, cs, t, (cs.length, cs.length + 1)⟩ :: rest)) : MarkVC G hs ⟨b, 0, none⟩ K :=
  ⟨Does.perm ht.perm (does_mark h)⟩
/-! ### Calls -/
structure CallVC (G : Cx) (hs : Hp) (f : Nat) (args : List Value) (K : Value → Hp → Prop) : Prop where wrap ::
  raw : ∃ R : Value → Hp → Prop, (∀ w, St G hs w → Calls G.P f args.toArray w fun e w' => ∃ v hs', e = .returned v ∧ R v hs' ∧ St G hs' w') ∧ ∀ v hs', R v hs' → K v hs'
theorem CallVC_eq (G : Cx) (hs : Hp) (f : Nat) (args : List Value) (K : Value → Hp → Prop) : CallVC G hs f args K = (∃ R : Value → Hp → Prop, (∀ w, St G hs w → Calls G.P f args.toArray w fun e w' => ∃ v hs', e = .returned v ∧ R v hs' ∧ St G hs' w') ∧ ∀ v hs', R v hs' → K v hs') := propext ⟨fun h => h.raw, fun h => ⟨h⟩⟩
/-- A call that leaves what is known, and what may be known beside, and hands back one value. -/
structure QuietVC (G : Cx) (hs : Hp) (f : Nat) (args : List Value) (K : Value → Prop) : Prop where wrap ::
  raw : ∃ v, (∀ hs1 w, St G hs1 w → (∀ w', St G hs1 w' → St G hs w') → Calls G.P f args.toArray w fun e w' => e = .returned v ∧ St G hs1 w') ∧ K v
theorem QuietVC_eq (G : Cx) (hs : Hp) (f : Nat) (args : List Value) (K : Value → Prop) : QuietVC G hs f args K = (∃ v, (∀ hs1 w, St G hs1 w → (∀ w', St G hs1 w' → St G hs w') → Calls G.P f args.toArray w fun e w' => e = .returned v ∧ St G hs1 w') ∧ K v) := propext ⟨fun h => h.raw, fun h => ⟨h⟩⟩

theorem callFunc_run {P : Program} {f : Nat} {args : Array Value} {w : World} (hc : callable P f) : (callFunc f args).run P w = .ok (.enter f args) w := by
  obtain ⟨fn, h1, h2, h3⟩ := hc
  simp only [callFunc, program, bind, Sem.bind, Sem.run, h1, h2, h3, Bool.false_eq_true, if_false]
  rfl
def targetK (v : Value) (args : List Value) (K : Nat → List Value → Prop) : Prop := match v with
  | .func fn first captured => match fn, first.toList, captured.toList with
    | .func f, [], [] => K f args
    | .func f, fi, ca => K f (fi ++ args ++ ca)
    | _, _, _ => False
  | _ => False
theorem target_run {P : Program} {o : Oper} {c : Call} {f : Operand} {w : World} {Kf : Nat → List Value → Prop} (ho : o.op = .call c) (hc : c.callee = .value f) (h : targetK (ρ f) (c.args.toList.map ρ) Kf) :
    ∃ n l, Kf n l ∧ (callable P n → (execOp ρ o).run P w = .ok (.enter n l.toArray) w) := by
  unfold targetK at h
  split at h
  · rename_i fn first captured hf
    have main : ∀ n, fn = .func n → Kf n (first.toList ++ c.args.toList.map ρ ++ captured.toList) → ∃ n l, Kf n l ∧ (callable P n → (execOp ρ o).run P w = .ok (.enter n l.toArray) w) := by
      rintro n rfl hk
      refine ⟨n, _, hk, fun hcl => ?_⟩
      have e : first ++ c.args.map ρ ++ captured = (first.toList ++ c.args.toList.map ρ ++ captured.toList).toArray := by
        apply Array.ext'; simp
      obtain ⟨dst, op, ty, pos, after, guard⟩ := o
      simp only at ho
      subst ho
      simp only [execOp, resolve, hc, hf, Deferred.ofValue, bind, Sem.bind, pure, invoke]
      rw [callFunc_run hcl, e]
    split at h
    · rename_i fn' f' h1 h2
      refine main f' rfl ?_
      rw [h1, h2]
      simpa using h
    · exact main _ rfl h
    · exact h.elim
  · exact h.elim

end Go.Proofs.Ytbccpibgjjiikaa
