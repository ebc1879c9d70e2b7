/-
  A region whose order is open, and code as a whole.
-/
import Derived.Test.YtljihicdoneniaaWf
set_option linter.unusedVariables false
set_option linter.unusedSimpArgs false
namespace Go.Proofs.Ytljihicdoneniaa
variable {G : Cx} {T : Tab}

structure Inv (G : Cx) (T : Tab) (N n : Nat) (all : List Oper) (hs : Hp) (F : Act) (K : Env → Hp → Prop) (listed : Array Bool) (a : Act) (w : World) (k : Nat) (b : Act) (env : Env) (hs' : Hp) : Prop where
  size : listed.size = all.length
  asize : a.tmps.size = N
  adef : a.defers = []
  tail : ∀ t, n ≤ t → t < all.length → (listed.getD t false = true ↔ t < n + k)
  fits : Fits N env b
  st : St G hs' w
  vc : opsVC G T N all (all.drop (n + k)) env hs' K
  first : k = 0 → hs' = hs
  then_ : 0 < k → ∀ (i : Nat) (o : Oper), i < n → all[i]? = some o → pureOp o.op = true ∨ listed.getD i false = true
  same : ∀ t, (∀ (i : Nat) (o : Oper), i < n → all[i]? = some o → listed.getD i false = false → o.dst ≠ some t) → a.tmps[t]? = b.tmps[t]?
  base : ∀ t, t ∉ dsts (all.drop n) → b.tmps[t]? = F.tmps[t]?

theorem draw_any (hT : TabOK G.P T) {N n : Nat} {all : List Oper} {hs : Hp} {F : Act} {K : Env → Hp → Prop} {Q : Exit → Act → World → Prop} (hB : drawB all n = true)
    (hQ : ∀ env hs a w, K env hs → Fits N env a → St G hs w → Q .normal a w)
    (hfacts : ∀ (i : Nat) (o : Oper), i < n → all[i]? = some o → ∃ v, QFact G hs all F o v) :
    ∀ (fuel : Nat) (listed : Array Bool) (a : Act) (w : World) (k : Nat) (b : Act) (env : Env) (hs' : Hp), Inv G T N n all hs F K listed a w k b env hs' → todo all.length listed ≤ fuel →
      wpAny G.P .any all.toArray Q fuel listed a w := by
  have hall : ∀ {listed : Array Bool}, listed.size = all.length → Region.ready .any all.toArray listed = [] → ∀ j, j < all.length → listed.getD j false = true := by
    intro listed hsz hr j
    induction j using Nat.strongRecOn with
    | _ j ih =>
      intro hj
      cases hb : listed.getD j false with
      | true => rfl
      | false =>
        have : j ∈ Region.ready .any all.toArray listed := mem_ready.2 ⟨by rw [getD_lt hsz hj]; exact hb, all[j], by simp [hj], fun e he hbind => by
          have D := drawB_spec hB (List.getElem?_eq_getElem hj)
          have := D.back e he hbind
          exact ih e.on this (by omega)⟩
        rw [hr] at this
        cases this
  have hend : ∀ {listed : Array Bool} {a : Act} {w : World} {k : Nat} {b : Act} {env : Env} {hs' : Hp}, Inv G T N n all hs F K listed a w k b env hs' → Region.ready .any all.toArray listed = [] → Q .normal a w := by
    intro listed a w k b env hs' I hr
    have hl := hall I.size hr
    have hk : all.length ≤ n + k := by
      rcases Nat.lt_or_ge (n + k) all.length with h | h
      · have := (I.tail (n + k) (by omega) h).1 (hl _ h)
        omega
      · exact h
    have hvc := I.vc
    rw [List.drop_eq_nil_of_le hk] at hvc
    have hab : a = b := by
      have ht : a.tmps = b.tmps := by
        apply Array.ext_getElem?
        intro t
        exact I.same t fun i o hi ho hu => by
          have : i < all.length := (List.getElem?_eq_some_iff.1 ho).1
          rw [hl i this] at hu
          cases hu
      have hd : a.defers = b.defers := by rw [I.adef, I.fits.defers]
      cases a; cases b; simp_all
    rw [hab]
    exact hQ env hs' b w hvc I.fits I.st
  intro fuel
  induction fuel with
  | zero =>
    intro listed a w k b env hs' I ht
    have hr : Region.ready .any all.toArray listed = [] := by
      rw [List.eq_nil_iff_forall_not_mem]
      intro i hi
      obtain ⟨h1, o, ho, _⟩ := mem_ready.1 hi
      have hlt : i < all.length := by
        rw [List.getElem?_toArray] at ho
        exact (List.getElem?_eq_some_iff.1 ho).1
      have := todo_set hlt I.size h1
      omega
    exact ⟨hr, hend I hr⟩
  | succ fuel ih =>
    intro listed a w k b env hs' I ht
    refine ⟨hend I, fun i hi => ?_⟩
    obtain ⟨hu, o, ho, hdeps⟩ := mem_ready.1 hi
    have ho' : all[i]? = some o := by rwa [List.getElem?_toArray] at ho
    have hlt : i < all.length := (List.getElem?_eq_some_iff.1 ho').1
    have hu' : listed.getD i false = false := by rw [← getD_lt I.size hlt]; exact hu
    have htd := todo_set hlt I.size hu
    have D := drawB_spec hB ho'
    have hedge : ∀ {j}, edgeB o j = true → listed.getD j false = true := by
      intro j hj
      obtain ⟨e, he, hb, hon⟩ := edge_out hj
      rw [← hon]
      exact hdeps e he hb
    have hlook : ∀ t ∈ o.looksAt all.toArray, a.tmps[t]? = b.tmps[t]? := by
      intro t htl
      refine I.same t fun j x hj hx hun hd => ?_
      have hji : j < i := by
        rcases Nat.lt_or_ge j i with h | h
        · exact h
        · exact absurd (mem_dsts (mem_drop hx h) hd) (D.late t htl)
      rw [hedge (D.waits t htl j x hji hx hd)] at hun
      cases hun
    have hsz' : (listed.setIfInBounds i true).size = all.length := by simp [I.size]
    unfold wpOp
    rw [ho]
    dsimp only
    rw [same_wanted hlook]
    by_cases hin : i < n
    · -- what only reads
      obtain ⟨v, hslot, hdoes⟩ := hfacts i o hin ho'
      have hlookF : ∀ t ∈ o.looksAt all.toArray, b.tmps[t]? = F.tmps[t]? := fun t htl => I.base t fun hd => D.late t htl (dsts_mono hd (by omega))
      have hinv : ∀ w', St G hs' w' → Inv G T N n all hs F K (listed.setIfInBounds i true) (a.put o.dst v) w' k b env hs' := by
        intro w' hw'
        refine ⟨hsz', by cases o.dst <;> simp [Act.put, I.asize], by cases o.dst <;> simp [Act.put, I.adef], ?_, I.fits, hw', I.vc, I.first, ?_, ?_, I.base⟩
        · intro t h1 h2
          rw [← I.tail t h1 h2]
          refine ⟨fun h => (getD_set h).resolve_left (by omega), fun h => getD_set' I.size h2 (.inr h)⟩
        · intro hk j x hj hx
          rcases I.then_ hk j x hj hx with h | h
          · exact .inl h
          · exact .inr (getD_set' I.size ((List.getElem?_eq_some_iff.1 hx).1) (.inr h))
        · intro t htn
          by_cases hd : o.dst = some t
          · obtain ⟨h1, h2⟩ := hslot t hd
            have hb1 : b.tmps[t]? = some v := by
              rw [I.base t fun hm => D.once t hd (dsts_mono hm (by omega))]
              exact h2
            rw [hb1, hd]
            have hbs : t < b.tmps.size := (Array.getElem?_eq_some_iff.1 hb1).1
            exact Array.getElem?_setIfInBounds_self_of_lt (by rw [I.asize, ← I.fits.size]; exact hbs)
          · rw [put_other hd]
            refine I.same t fun j x hj hx hun => ?_
            by_cases hji : j = i
            · subst hji
              rw [ho'] at hx
              obtain rfl := Option.some.inj hx
              exact hd
            · refine htn j x hj hx ?_
              cases hb : (listed.setIfInBounds i true).getD j false with
              | false => rfl
              | true =>
                rcases getD_set hb with h | h
                · exact absurd h hji
                · rw [hun] at h; cases h
      rw [same_wanted hlookF]
      rcases hdoes with ⟨hw1, hq⟩ | ⟨hw1, rfl⟩
      · rw [if_pos hw1]
        refine .inl ?_
        have he : execOp a.eval o = execOp F.eval o := same_exec D.sel fun t ht => (hlook t ht).trans (hlookF t ht)
        unfold Oper.wp
        rw [he]
        rcases Nat.eq_zero_or_pos k with hk | hk
        · have hst := I.st
          have e1 := I.first hk
          rw [e1] at hst
          rcases hq.1 w hst with hr | ⟨f, args, hr, hc⟩
          · rw [hr]
            exact ih _ _ w k b env hs' (hinv w I.st) (by omega)
          · rw [hr]
            refine Calls.mono hc ?_
            rintro e w' ⟨rfl, hw'⟩
            exact ih _ _ w' k b env hs' (hinv w' (by rw [e1]; exact hw')) (by omega)
        · have hp : pureOp o.op = true := (I.then_ hk i o hin ho').resolve_right (by rw [hu']; exact Bool.false_ne_true)
          rw [hq.2 hp w]
          exact ih _ _ w k b env hs' (hinv w I.st) (by omega)
      · rw [if_neg (by rw [hw1]; exact Bool.false_ne_true)]
        exact ih _ _ w k b env hs' (hinv w I.st) (by omega)
    · -- what writes
      have hik : i = n + k := by
        have h1 : ¬ i < n + k := fun h => by
          have := (I.tail i (by omega) hlt).2 h
          rw [hu'] at this
          cases this
        rcases Nat.eq_or_lt_of_le (show n ≤ i by omega) with h | h
        · omega
        · have h2 := hedge (D.chain h)
          have := (I.tail (i - 1) (by omega) (by omega)).1 h2
          omega
      subst hik
      have hvc := I.vc
      have hdrop : all.drop (n + k) = o :: all.drop (n + k + 1) := by
        rw [List.drop_eq_getElem_cons hlt]
        congr 1
        have := List.getElem?_eq_getElem hlt
        rw [ho'] at this
        exact (Option.some.inj this).symm
      rw [hdrop] at hvc
      have hinv : ∀ v env2 hs2 w', Fits N env2 (b.put o.dst v) → St G hs2 w' → opsVC G T N all (all.drop (n + k + 1)) env2 hs2 K →
          Inv G T N n all hs F K (listed.setIfInBounds (n + k) true) (a.put o.dst v) w' (k + 1) (b.put o.dst v) env2 hs2 := by
        intro v env2 hs2 w' hf2 hw' hvc2
        refine ⟨hsz', by cases o.dst <;> simp [Act.put, I.asize], by cases o.dst <;> simp [Act.put, I.adef], ?_, hf2, hw', by rw [show n + (k + 1) = n + k + 1 by omega]; exact hvc2, fun h => by omega, ?_, ?_, ?_⟩
        · intro t h1 h2
          refine ⟨fun h => ?_, fun h => ?_⟩
          · rcases getD_set h with h3 | h3
            · omega
            · have := (I.tail t h1 h2).1 h3; omega
          · refine getD_set' I.size h2 ?_
            by_cases htk : t = n + k
            · exact .inl htk
            · exact .inr ((I.tail t h1 h2).2 (by omega))
        · intro _ j x hj hx
          have hjl : j < all.length := (List.getElem?_eq_some_iff.1 hx).1
          rcases Nat.eq_zero_or_pos k with hk | hk
          · subst hk
            rcases (drawB_spec hB hx).sink hj with h | h
            · exact .inl h
            · exact .inr (getD_set' I.size hjl (.inr (hedge (h o ho'))))
          · rcases I.then_ hk j x hj hx with h | h
            · exact .inl h
            · exact .inr (getD_set' I.size hjl (.inr h))
        · intro t htn
          by_cases hd : o.dst = some t
          · rw [hd]
            show (a.tmps.setIfInBounds t v)[t]? = (b.tmps.setIfInBounds t v)[t]?
            have hss : a.tmps.size = b.tmps.size := by rw [I.asize, I.fits.size]
            by_cases hlt' : t < a.tmps.size
            · rw [Array.getElem?_setIfInBounds_self_of_lt hlt', Array.getElem?_setIfInBounds_self_of_lt (hss ▸ hlt')]
            · rw [Array.getElem?_eq_none (by rw [Array.size_setIfInBounds]; exact Nat.le_of_not_lt hlt'), Array.getElem?_eq_none (by rw [Array.size_setIfInBounds, ← hss]; exact Nat.le_of_not_lt hlt')]
          · rw [put_other hd, put_other hd]
            refine I.same t fun j x hj hx hun => htn j x hj hx ?_
            cases hb : (listed.setIfInBounds (n + k) true).getD j false with
            | false => rfl
            | true =>
              rcases getD_set hb with h | h
              · omega
              · rw [hun] at h; cases h
        · intro t htn
          rw [put_other fun hd => htn (mem_dsts (mem_drop ho' (by omega)) hd)]
          exact I.base t htn
      rcases guardK_out I.fits hvc with ⟨hw1, hrun⟩ | ⟨hw1, hskip⟩
      · rw [if_pos hw1]
        refine .inl ?_
        have he : execOp a.eval o = execOp b.eval o := same_exec D.sel hlook
        have hdo := evc_sound hT I.fits.agrees hrun
        have key : ∀ v hs2 w', (dstK N o.dst v env fun env' => opsVC G T N all (all.drop (n + k + 1)) env' hs2 K) → St G hs2 w' →
            wpAny G.P .any all.toArray Q fuel (listed.setIfInBounds (n + k) true) (a.put o.dst v) w' := by
          intro v hs2 w' hd hw'
          obtain ⟨env2, h1, h2⟩ := dstK_out I.fits hd
          exact ih _ _ w' (k + 1) _ env2 hs2 (hinv v env2 hs2 w' h2 hw' h1) (by omega)
        unfold Oper.wp
        rw [he]
        rcases hdo w I.st with ⟨v, w', hs2, hr, hw', hk⟩ | ⟨w', hs2, hr, hw', hk⟩ | ⟨f, args, hr, hc⟩
        · rw [hr]; exact key v hs2 w' hk hw'
        · rw [hr]; exact key undef hs2 w' hk hw'
        · rw [hr]
          refine Calls.mono hc ?_
          rintro e w' ⟨v, hs2, rfl, hw', hk⟩
          exact key v hs2 w' hk hw'
      · rw [if_neg (by rw [hw1]; exact Bool.false_ne_true)]
        obtain ⟨env2, h1, h2⟩ := dstK_out I.fits hskip
        exact ih _ _ w (k + 1) _ env2 hs' (hinv undef env2 hs' w h2 I.st h1) (by omega)

theorem draw_sound (hT : TabOK G.P T) {N n id : Nat} {ops : Array Oper} {Q : Exit → Act → World → Prop} {K : Env → Hp → Prop} {env : Env} {hs : Hp} {a : Act} {w : World}
    (hQ : ∀ env hs a w, K env hs → Fits N env a → St G hs w → Q .normal a w) (hB : drawB ops.toList n = true)
    (h : qVC G T N ops.toList hs (ops.toList.take n) env fun env' => opsVC G T N ops.toList (ops.toList.drop n) env' hs K) (hf : Fits N env a) (hw : St G hs w) :
    (Code.region id ops true).wp G.P Q a w := by
  obtain ⟨F, env', hvc, hF, hsame, hfacts⟩ := qVC_facts hT hB (ops.toList.take n) 0 env a _ (fun i o hi => by
    rw [Nat.zero_add]
    rw [List.getElem?_take] at hi
    split at hi
    · exact hi
    · cases hi) h hf
  have hfacts' : ∀ (i : Nat) (o : Oper), i < n → ops.toList[i]? = some o → ∃ v, QFact G hs ops.toList F o v := fun i o hi ho => hfacts i o (by rw [List.getElem?_take, if_pos hi]; exact ho)
  have I : Inv G T N n ops.toList hs F K (Array.replicate ops.toList.length false) a { w with drawn := w.drawn + 1 } 0 F env' hs := by
    refine ⟨by simp, hf.size, hf.defers, ?_, hF, hw.drawn _, hvc, fun _ => rfl, fun h => by omega, ?_, fun _ _ => rfl⟩
    · intro t h1 h2
      refine ⟨fun h => ?_, fun h => by omega⟩
      simp [Array.getD_eq_getD_getElem?, Array.getElem?_replicate] at h
      split at h <;> simp at h
    · intro t ht
      rw [hsame t fun o ho hd => ?_]
      obtain ⟨i, hi⟩ := List.mem_iff_getElem?.1 ho
      rw [List.getElem?_take] at hi
      split at hi
      · rename_i hlt
        have hil : i < ops.toList.length := (List.getElem?_eq_some_iff.1 hi).1
        exact ht i o hlt hi (by simp [Array.getD_eq_getD_getElem?, Array.getElem?_replicate]; split <;> rfl) hd
      · cases hi
  have := draw_any hT hB hQ hfacts' ops.size (Array.replicate ops.toList.length false) a _ 0 F env' hs I (by
    unfold todo
    have := List.length_filter_le (fun i => !(Array.replicate ops.toList.length false).getD i true) (List.range ops.toList.length)
    simpa using this)
  refine wp_region_any hT.mixed ?_
  rw [Array.toArray_toList, Array.length_toList] at this
  exact this

end Go.Proofs.Ytljihicdoneniaa
