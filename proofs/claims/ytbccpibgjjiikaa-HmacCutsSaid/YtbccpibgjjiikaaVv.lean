/-
  The reading operations as one law.
-/
import Derived.Test.YtbccpibgjjiikaaVu
set_option linter.unusedVariables false
set_option linter.unusedSimpArgs false
namespace Go.Proofs.Ytbccpibgjjiikaa
variable {G : Cx} {hs : Hp} {T : Tab} {env : Env} {ρ : Operand → Value} {K : Value → Prop}

theorem q_minK {x y : Value} (h : minK K x y) : qvc G (Builtin.min2 x y) hs K := by
  unfold minK at h
  split at h
  · rename_i k x k' y
    split at h
    · simp only [Builtin.min2]
      have e : (if y < x then y else x) = min x y := by omega
      rw [e]; exact h
    · exact h.elim
  · exact h.elim
theorem q_maxK {x y : Value} (h : maxK K x y) : qvc G (Builtin.max2 x y) hs K := by
  unfold maxK at h
  split at h
  · rename_i k x k' y
    split at h
    · simp only [Builtin.max2]
      have e : (if y > x then y else x) = max x y := by omega
      rw [e]; exact h
    · exact h.elim
  · exact h.elim
theorem q_lenK {t ty : Nat} {v : Value} {ts : List Nat} {vs : List Value} (hT : TabOK G.P T) (h : lenK T t v K) : qvc G (Builtin.len_ (t :: ts).toArray ty (v :: vs).toArray) hs K := by
  unfold lenK at h
  split at h
  · rename_i i hl
    have hd := look_desc hT hl
    unfold Builtin.len_
    split at h
    · rename_i s hdd
      simp only [hdd, descOk] at hd
      exact qvc_bind _ _ _ _ (q_underlying hd h)
    · rename_i e a n c hdd
      simp only [hdd, descOk] at hd
      exact qvc_bind _ _ _ _ (q_underlying hd h)
    · rename_i n e hdd
      simp only [hdd, descOk] at hd
      exact qvc_bind _ _ _ _ (q_underlying hd h)
    · exact h.elim
  · exact h.elim
theorem q_quiet {b : Builtin} {ts : List Nat} {ty : Nat} {cs : Array Bool} {vs : List Value} (hT : TabOK G.P T) (h : quietCallK T b ts vs K) :
    qvc G (builtin b ts.toArray ty cs vs.toArray) hs (Yes K) := by
  unfold quietCallK at h
  split at h
  · exact q_value (q_lenK hT h)
  · rename_i v w
    have e : Builtin.min_ ts.toArray ty #[v, w] = Builtin.min2 v w := by simp [Builtin.min_]
    simp only [builtin]
    rw [show [v, w].toArray = #[v, w] from rfl, e]
    exact q_value (q_minK h)
  · rename_i v w
    have e : Builtin.max_ ts.toArray ty #[v, w] = Builtin.max2 v w := by simp [Builtin.max_]
    simp only [builtin]
    rw [show [v, w].toArray = #[v, w] from rfl, e]
    exact q_value (q_maxK h)
  · exact h.elim

theorem evPartsK_out (hρ : Agrees ρ env) : ∀ (l : List (Nat × Operand)) (Kl : List (Nat × Value) → Prop), evPartsK env l Kl → Kl (l.map fun (i, x) => (i, ρ x))
  | [], _, h => h
  | (i, x) :: r, Kl, h => evPartsK_out hρ r _ (evK_out hρ h)

theorem evK_some {x : Operand} (h : evK env x K) : ∃ v, ev env x = some v ∧ K v := by
  unfold evK at h
  split at h
  · exact ⟨_, by assumption, h⟩
  · exact h.elim

/-- **An operation that only reads does what its condition says.** -/
theorem pvc_sound {dst : Option Tmp} {op : Op} {ty : Nat} {pos : String} {after : Array Edge} {guard : Option (Nat × Bool)} (hT : TabOK G.P T) (hρ : Agrees ρ env) (h : pvc G T hs env op K) :
    qvc G (execOp ρ ⟨dst, op, ty, pos, after, guard⟩) hs (Yes K) := by
  unfold pvc at h
  split at h
  · exact ⟨_, rfl, evK_out hρ h⟩
  · exact ⟨_, rfl, evK_out hρ h⟩
  · rename_i c a b
    obtain ⟨v, hv, h⟩ := evK_some h
    have hc := hρ _ _ hv
    split at h
    · refine qvc_bind (asBool (ρ c)) _ _ _ ?_
      rw [hc]
      exact ⟨_, rfl, evK_out hρ h⟩
    · refine qvc_bind (asBool (ρ c)) _ _ _ ?_
      rw [hc]
      exact ⟨_, rfl, evK_out hρ h⟩
    · exact h.elim
  · exact q_value (q_binop hT (evK_out hρ (evK_out hρ h)))
  · exact q_value (q_unK (evK_out hρ h))
  · rename_i x
    obtain ⟨v, hv, h⟩ := evK_some h
    have hc := hρ _ _ hv
    split at h
    · simp only [execOp, hc]
      exact ⟨_, rfl, h⟩
    · exact h.elim
  · rename_i s x f
    obtain ⟨v, hv, h⟩ := evK_some h
    have hc := hρ _ _ hv
    split at h
    · simp only [execOp, hc]
      exact q_value (q_fieldAddr hT h)
    · exact h.elim
  · rename_i t x i
    have h1 := evK_out hρ h
    obtain ⟨v, hv, h⟩ := evK_some h1
    have hc := hρ _ _ hv
    split at h
    · simp only [execOp, hc]
      exact q_value (q_index hT h)
    · exact h.elim
  · rename_i t x i
    obtain ⟨u, hu, h⟩ := evK_some h
    have hcu := hρ _ _ hu
    obtain ⟨v, hv, h⟩ := evK_some h
    have hc := hρ _ _ hv
    split at h
    · split at h
      · split at h
        · rename_i q hq
          split at h
          · rename_i hd
            obtain ⟨h1, h2⟩ := Need.out h
            simp only [execOp, hc, hcu]
            exact q_value (q_indexStr hT hq hd h1 h2)
          · exact h.elim
        · exact h.elim
      · exact h.elim
    · exact h.elim
  · rename_i t x
    obtain ⟨v, hv, h⟩ := evK_some h
    have hc := hρ _ _ hv
    split at h
    · simp only [execOp, hc]
      exact q_value (q_loadK hT h)
    · exact h.elim
  · rename_i x i
    obtain ⟨v, hv, h⟩ := evK_some h
    have hc := hρ _ _ hv
    split at h
    · simp only [execOp, hc]
      exact q_value (q_optK h)
    · exact h.elim
  · exact q_value (q_convK hT (evK_out hρ h))
  · exact q_value (q_sliceK hT (evOptK_out hρ _ _ (evOptK_out hρ _ _ (evOptK_out hρ _ _ (evK_out hρ h)))))
  · rename_i t x
    obtain ⟨v, hv, h⟩ := evK_some h
    have hc := hρ _ _ hv
    split at h
    · split at h
      · rename_i i hi
        split at h
        · rename_i hd
          obtain ⟨h1, h2⟩ := Need.out h
          simp only [execOp, hc]
          exact q_value (q_arrayAt hT hi hd h1 h2)
        · exact h.elim
      · exact h.elim
    · exact h.elim
  · rename_i fn first captured
    have h1 := evAllK_out hρ _ _ (evAllK_out hρ _ _ h)
    simp only [execOp, Instr.makeFunc]
    refine q_value ?_
    have e1 : (List.map ρ first.toList).toArray = first.map ρ := by apply Array.ext'; simp
    have e2 : (List.map ρ captured.toList).toArray = captured.map ρ := by apply Array.ext'; simp
    rw [e1, e2] at h1
    exact h1
  · rename_i t parts
    have h1 := evPartsK_out hρ _ _ h
    simp only [execOp]
    refine q_value (q_build hT ?_)
    rw [Array.toList_map]
    exact h1
  · rename_i c
    split at h
    · rename_i b hb
      have h1 := evAllK_out hρ _ _ h
      have e1 : (List.map ρ c.args.toList).toArray = c.args.map ρ := by apply Array.ext'; simp
      have key : ∀ cs, qvc G (builtin b c.argTypes ty cs (c.args.map ρ)) hs (Yes K) := by
        intro cs
        have := q_quiet (G := G) (hs := hs) (ty := ty) (cs := cs) hT h1
        rw [e1, Array.toArray_toList] at this
        exact this
      simp only [execOp, resolve, hb, bind, Sem.bind, pure, invoke]
      exact key _
    · exact h.elim
  · exact h.elim

end Go.Proofs.Ytbccpibgjjiikaa
