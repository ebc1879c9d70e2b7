/-
  A region whose order is open: one walk in the text's order serves every order.
-/
import Derived.Test.YtljihicdoneniaaWe
set_option linter.unusedVariables false
set_option linter.unusedSimpArgs false
namespace Go.Proofs.Ytljihicdoneniaa
variable {G : Cx} {T : Tab}

theorem mem_dsts {l : List Oper} {o : Oper} {d : Nat} (h : o ∈ l) (hd : o.dst = some d) : d ∈ dsts l := List.mem_filterMap.2 ⟨o, h, hd⟩
theorem mem_drop {all : List Oper} {j k : Nat} {o : Oper} (h : all[j]? = some o) (hk : k ≤ j) : o ∈ all.drop k := by
  rw [List.mem_iff_getElem?]
  exact ⟨j - k, by rw [List.getElem?_drop, show k + (j - k) = j by omega]; exact h⟩
theorem dsts_mono {all : List Oper} {j k d : Nat} (h : d ∈ dsts (all.drop k)) (hj : j ≤ k) : d ∈ dsts (all.drop j) := by
  obtain ⟨o, ho, hd⟩ := List.mem_filterMap.1 h
  refine mem_dsts ?_ hd
  obtain ⟨i, hi⟩ := List.mem_iff_getElem?.1 ho
  rw [List.getElem?_drop] at hi
  exact mem_drop hi (by omega)

theorem qVC_facts (hT : TabOK G.P T) {N n : Nat} {all : List Oper} {hs : Hp} (hB : drawB all n = true) : ∀ (l : List Oper) (k : Nat) (env : Env) (a : Act) (K : Env → Prop),
    (∀ (i : Nat) (o : Oper), l[i]? = some o → all[k + i]? = some o) → qVC G T N all hs l env K → Fits N env a →
    ∃ (F : Act) (env' : Env), K env' ∧ Fits N env' F ∧ (∀ t, (∀ o ∈ l, o.dst ≠ some t) → F.tmps[t]? = a.tmps[t]?) ∧ ∀ (i : Nat) (o : Oper), l[i]? = some o → ∃ v, QFact G hs all F o v
  | [], k, env, a, K, _, h, hf => ⟨a, env, h, hf, fun _ _ => rfl, fun i o hi => by simp at hi⟩
  | o :: r, k, env, a, K, hl, h, hf => by
    have hk : all[k]? = some o := by simpa using hl 0 o rfl
    have D := drawB_spec hB hk
    have hr : ∀ (i : Nat) (x : Oper), r[i]? = some x → all[k + 1 + i]? = some x := fun i x hi => by
      have := hl (i + 1) x (by simpa using hi)
      rwa [show k + (i + 1) = k + 1 + i by omega] at this
    have hmem : ∀ x ∈ r, x ∈ all.drop (k + 1) := fun x hx => by
      obtain ⟨i, hi⟩ := List.mem_iff_getElem?.1 hx
      exact mem_drop (hr i x hi) (by omega)
    obtain ⟨v, env1, hq, hf1, hrest⟩ : ∃ v env1, ((Region.wanted o (yielded all.toArray a.tmps) = true ∧ QRun G hs a.eval o v) ∨ (Region.wanted o (yielded all.toArray a.tmps) = false ∧ v = undef)) ∧
        Fits N env1 (a.put o.dst v) ∧ qVC G T N all hs r env1 K := by
      rcases guardK_out hf h with ⟨hw, hrun⟩ | ⟨hw, hskip⟩
      · obtain ⟨v, hv, hd⟩ := qone_qrun hT hf.agrees hrun
        obtain ⟨env1, h1, h2⟩ := dstK_out hf hd
        exact ⟨v, env1, .inl ⟨hw, hv⟩, h2, h1⟩
      · obtain ⟨env1, h1, h2⟩ := dstK_out hf hskip
        exact ⟨undef, env1, .inr ⟨hw, rfl⟩, h2, h1⟩
    obtain ⟨F, env', hK, hF, hsame, hfacts⟩ := qVC_facts hT hB r (k + 1) env1 _ K hr hrest hf1
    have hlook : ∀ t ∈ o.looksAt all.toArray, F.tmps[t]? = a.tmps[t]? := by
      intro t ht
      have hlate := D.late t ht
      rw [hsame t (fun x hx hd => hlate (dsts_mono (mem_dsts (hmem x hx) hd) (by omega)))]
      exact put_other fun hd => hlate (mem_dsts (mem_drop hk (Nat.le_refl _)) hd)
    refine ⟨F, env', hK, hF, fun t ht => ?_, fun i x hi => ?_⟩
    · rw [hsame t (fun x hx => ht x (List.mem_cons_of_mem _ hx))]
      exact put_other (ht o (List.mem_cons_self ..))
    · cases i with
      | zero =>
        obtain rfl : o = x := by simpa using hi
        refine ⟨v, ⟨fun d hd => ?_, ?_⟩⟩
        · have hlt : d < N := by
            rcases guardK_out hf h with ⟨_, hrun⟩ | ⟨_, hskip⟩
            · obtain ⟨v', _, hd'⟩ := qone_qrun hT hf.agrees hrun
              unfold dstK at hd'
              rw [hd] at hd'
              dsimp only at hd'
              split at hd'
              · rename_i hb; simpa using hb
              · exact hd'.elim
            · unfold dstK at hskip
              rw [hd] at hskip
              dsimp only at hskip
              split at hskip
              · rename_i hb; simpa using hb
              · exact hskip.elim
          refine ⟨by rw [hF.size]; exact hlt, ?_⟩
          rw [hsame d (fun x hx hdx => D.once d hd (mem_dsts (hmem x hx) hdx)), hd]
          exact Array.getElem?_setIfInBounds_self_of_lt (by rw [hf.size]; exact hlt)
        · rw [same_wanted hlook]
          rcases hq with ⟨h1, h2⟩ | h1
          · refine .inl ⟨h1, ?_⟩
            have he := same_exec D.sel hlook
            refine ⟨fun w hw => ?_, fun hp w => ?_⟩
            · rw [he]; exact h2.1 w hw
            · rw [he]; exact h2.2 hp w
          · exact .inr h1
      | succ i => exact hfacts i x (by simpa using hi)

/-- How many are still to come. -/
def todo (m : Nat) (listed : Array Bool) : Nat := ((List.range m).filter fun i => !listed.getD i true).length
theorem todo_set {m i : Nat} {listed : Array Bool} (hi : i < m) (hs : listed.size = m) (hu : listed.getD i true = false) : todo m (listed.setIfInBounds i true) < todo m listed := by
  unfold todo
  have h1 : (List.range m).filter (fun j => !(listed.setIfInBounds i true).getD j true) = ((List.range m).filter fun j => !listed.getD j true).filter (fun j => decide (j ≠ i)) := by
    rw [List.filter_filter]
    refine List.filter_congr fun j hj => ?_
    by_cases hji : j = i
    · subst hji
      simp [Array.getD_eq_getD_getElem?, Array.getElem?_setIfInBounds_self_of_lt (show j < listed.size by omega)]
    · simp [Array.getD_eq_getD_getElem?, Array.getElem?_setIfInBounds_ne (fun h => hji h.symm), hji]
  rw [h1]
  refine List.length_filter_lt_length_iff_exists.2 ⟨i, ?_, by simp⟩
  rw [List.mem_filter]
  exact ⟨List.mem_range.2 hi, by rw [hu]; rfl⟩
theorem getD_lt {listed : Array Bool} {m i : Nat} (hs : listed.size = m) (hi : i < m) : listed.getD i true = listed.getD i false := by
  simp [Array.getD_eq_getD_getElem?, Array.getElem?_eq_getElem (show i < listed.size by omega)]
theorem getD_set {listed : Array Bool} {i j : Nat} : (listed.setIfInBounds i true).getD j false = true → j = i ∨ listed.getD j false = true := by
  intro h
  by_cases hji : j = i
  · exact .inl hji
  · right
    simpa [Array.getD_eq_getD_getElem?, Array.getElem?_setIfInBounds_ne (fun h => hji h.symm)] using h
theorem getD_set' {listed : Array Bool} {i j m : Nat} (hs : listed.size = m) (hj : j < m) (h : j = i ∨ listed.getD j false = true) : (listed.setIfInBounds i true).getD j false = true := by
  by_cases hji : j = i
  · subst hji
    simp [Array.getD_eq_getD_getElem?, Array.getElem?_setIfInBounds_self_of_lt (show j < listed.size by omega)]
  · rcases h with h | h
    · exact absurd h hji
    · simpa [Array.getD_eq_getD_getElem?, Array.getElem?_setIfInBounds_ne (fun h => hji h.symm)] using h

end Go.Proofs.Ytljihicdoneniaa
