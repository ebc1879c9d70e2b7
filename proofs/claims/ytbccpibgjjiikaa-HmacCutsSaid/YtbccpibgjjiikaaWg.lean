/-
  A region whose order is open, as a whole.
-/
import Derived.Test.YtbccpibgjjiikaaWf
set_option linter.unusedVariables false
set_option linter.unusedSimpArgs false
namespace Go.Proofs.Ytbccpibgjjiikaa
variable {G : Cx} {T : Tab} {r : Option Nat} {ds : List Deferred} {N : Nat} {all : List Oper} {K : Env → Hp → Prop}

theorem QRun.noDefer {hs : Hp} {b : Act} {o : Oper} {v : Value} (h : QRun G hs b.eval o v) {hs1 : Hp} {w : World} (hw : St G hs1 w) (h1 : ∀ w', St G hs1 w' → St G hs w') : ∀ c, o.op ≠ .defer c := by
  intro c hc
  rcases h.1 hs1 w hw h1 with hr | ⟨f, args, hr, _⟩ <;> (obtain ⟨d, hd⟩ := exec_defer hc hr; cases hd)
theorem QRun.pureNoDefer {hs : Hp} {b : Act} {o : Oper} {v : Value} (h : QRun G hs b.eval o v) (hp : pureOp o.op = true) : ∀ c, o.op ≠ .defer c := by
  intro c hc
  obtain ⟨d, hd⟩ := exec_defer hc (h.2 hp bareW)
  cases hd
theorem draw_any (hT : TabOK G.P T) {Q : Exit → Act → World → Prop} (hW : wellB all = true)
    (hQ : ∀ env hs a w, K env hs → Fits ds N env a → St G hs w → Q .normal a w) :
    ∀ (fuel : Nat) (listed : Array Bool) (a : Act) (w : World) (V : List Bool) (p : Plan) (b : Act) (env : Env) (hs : Hp), Inv G T ds N all K listed a w V p b env hs → todo all.length listed ≤ fuel →
      wpAnyIn (FR r) 0 G.P .any all.toArray Q fuel listed a w := by
  have hall : ∀ {listed : Array Bool}, listed.size = all.length → Region.ready .any all.toArray listed = [] → ∀ j, j < all.length → listed.getD j false = true := by
    intro listed hsz hr j
    induction j using Nat.strongRecOn with
    | _ j ih =>
      intro hj
      cases hb : listed.getD j false with
      | true => rfl
      | false =>
        have : j ∈ Region.ready .any all.toArray listed := mem_ready.2 ⟨by rw [getD_lt hsz hj]; exact hb, all[j], by simp [hj], fun e he hbind => by
          have D := wellB_spec hW (List.getElem?_eq_getElem hj)
          have := D.back e.on (mem_binds.2 ⟨e, he, hbind, rfl⟩)
          exact ih e.on this (by omega)⟩
        rw [hr] at this
        cases this
  have hend : ∀ {listed : Array Bool} {a : Act} {w : World} {V : List Bool} {p : Plan} {b : Act} {env : Env} {hs : Hp}, Inv G T ds N all K listed a w V p b env hs → Region.ready .any all.toArray listed = [] → Q .normal a w := by
    intro listed a w V p b env hs I hr
    obtain ⟨V, p, b, env, I, hnq⟩ := Inv.ahead hT hW p V b env hs I
    have hl := hall I.size hr
    have hV : ∀ i, i < V.length → In V i := fun i hi => I.sub i (hl i (by rw [← I.vsize]; exact hi))
    have hp : p = .done := by
      have hpb := I.pb
      cases p with
      | done => rfl
      | q j r => exact absurd rfl (hnq j r)
      | one i s r =>
        unfold planB at hpb
        simp only [Bool.and_eq_true] at hpb
        obtain ⟨o, _, _, h1, h2, _⟩ := open_spec hpb.1.1.2
        exact absurd (hV i h1) h2
      | two i r j s =>
        unfold planB at hpb
        simp only [Bool.and_eq_true] at hpb
        obtain ⟨o, _, _, h1, h2, _⟩ := open_spec hpb.1.1.1.2
        exact absurd (hV i h1) h2
    subst hp
    have hab : a = b := by
      have ht : a.tmps = b.tmps := by
        apply Array.ext_getElem?
        intro t
        exact I.same t fun i o ho hi hu => by
          have : i < all.length := (List.getElem?_eq_some_iff.1 ho).1
          rw [hl i this] at hu
          cases hu
      have hd : a.defers = b.defers := by rw [I.adef, I.fits.defers]
      cases a; cases b; simp_all
    rw [hab]
    exact hQ env hs b w I.vc I.fits I.st
  intro fuel
  induction fuel with
  | zero =>
    intro listed a w V p b env hs I ht
    have hr : Region.ready .any all.toArray listed = [] := by
      rw [List.eq_nil_iff_forall_not_mem]
      intro i hi
      obtain ⟨h1, o, ho, _⟩ := mem_ready.1 hi
      have hlt : i < all.length := by
        rw [List.getElem?_toArray] at ho
        exact (List.getElem?_eq_some_iff.1 ho).1
      have := todo_set hlt I.size h1
      omega
    exact ⟨hr, hend I hr⟩
  | succ fuel ih =>
    intro listed a w V p b env hs I ht
    refine ⟨hend I, fun i hi => ?_⟩
    obtain ⟨V, p, b, env, I, hnq⟩ := Inv.ahead hT hW p V b env hs I
    obtain ⟨hu, o, ho, hdeps⟩ := mem_ready.1 hi
    have ho' : all[i]? = some o := by rwa [List.getElem?_toArray] at ho
    have hlt : i < all.length := (List.getElem?_eq_some_iff.1 ho').1
    have hu' : listed.getD i false = false := by rw [← getD_lt I.size hlt]; exact hu
    have htd := todo_set hlt I.size hu
    have D := wellB_spec hW ho'
    have hdep : ∀ j ∈ bindsOf o, listed.getD j false = true := by
      intro j hj
      obtain ⟨e, he, hb, hon⟩ := mem_binds.1 hj
      rw [← hon]
      exact hdeps e he hb
    have hlook : ∀ t ∈ o.looksAt all.toArray, a.tmps[t]? = b.tmps[t]? := by
      intro t htl
      refine I.same t fun j x hx hj hun hd => ?_
      rw [hdep j ((I.pend j x hx ‹_› hun).anti i o ho' t htl hd)] at hun
      cases hun
    have hsz' : (listed.setIfInBounds i true).size = all.length := by simp [I.size]
    have hL' : Closed all fun k => (listed.setIfInBounds i true).getD k false = true := by
      intro k x hk hx j hj
      have hjl : j < all.length := Nat.lt_trans ((wellB_spec hW hx).back j hj) (List.getElem?_eq_some_iff.1 hx).1
      rcases getD_set hk with rfl | hk
      · rw [ho'] at hx; cases hx
        exact getD_set' I.size hjl (.inr (hdep j hj))
      · exact getD_set' I.size hjl (.inr (I.closedL k x hk hx j hj))
    have hnot : ∀ k, (listed.setIfInBounds i true).getD k false = false → k ≠ i ∧ listed.getD k false = false := by
      intro k hk
      refine ⟨?_, ?_⟩
      · rintro rfl
        rw [getD_set' I.size hlt (.inl rfl)] at hk; cases hk
      · cases hx : listed.getD k false with
        | false => rfl
        | true =>
          by_cases hkl : k < all.length
          · rw [getD_set' I.size hkl (.inr hx)] at hk; cases hk
          · rw [Array.getD_eq_getD_getElem?, Array.getElem?_eq_none (by rw [I.size]; omega)] at hx; cases hx
    unfold wpOpIn
    rw [ho]
    dsimp only
    rw [same_wanted hlook]
    by_cases hin : In V i
    · -- it was reckoned
      obtain ⟨v, hs0, hslot, hdoes⟩ := (I.pend i o ho' hin hu').raw
      have hinv : ∀ w', St G hs w' → Inv G T ds N all K (listed.setIfInBounds i true) (a.put o.dst v) w' V p b env hs := by
        intro w' hw'
        refine ⟨hsz', I.vsize, by cases o.dst <;> simp [Act.put, I.asize], by cases o.dst <;> simp [Act.put, I.adef], ?_, hL', I.closedV, I.fits, hw', I.vc, I.pb, fun k x hx hk hun => I.pend k x hx hk (hnot k hun).2, ?_⟩
        · intro k hk
          rcases getD_set hk with rfl | hk
          · exact hin
          · exact I.sub k hk
        · intro t htn
          by_cases hd : o.dst = some t
          · have hb1 := hslot t hd
            rw [hb1, hd]
            have hbs : t < b.tmps.size := (Array.getElem?_eq_some_iff.1 hb1).1
            exact Array.getElem?_setIfInBounds_self_of_lt (by rw [I.asize, ← I.fits.size]; exact hbs)
          · rw [put_other hd]
            refine I.same t fun j x hx hj hun => ?_
            by_cases hji : j = i
            · subst hji
              rw [ho'] at hx
              obtain rfl := Option.some.inj hx
              exact hd
            · refine htn j x hx hj ?_
              cases hb : (listed.setIfInBounds i true).getD j false with
              | false => rfl
              | true =>
                rcases getD_set hb with h | h
                · exact absurd h hji
                · rw [hun] at h; cases h
      rcases hdoes with ⟨hw1, hq, hst⟩ | ⟨hw1, rfl⟩
      · rw [if_pos hw1]
        have he : execOp a.eval o = execOp b.eval o := same_exec D.sel hlook
        unfold Oper.wpIn
        refine ⟨fun _ _ => trivial, ?_⟩
        rcases hst with hp | hst
        · rw [Oper.semAt_eq _ _ _ (hq.pureNoDefer hp), he, hq.2 hp w]
          exact ih _ _ w V p b env hs (hinv w I.st) (by omega)
        · rw [Oper.semAt_eq _ _ _ (hq.noDefer I.st hst), he]
          rcases hq.1 hs w I.st hst with hr | ⟨f, args, hr, hc⟩
          · rw [hr]
            exact ih _ _ w V p b env hs (hinv w I.st) (by omega)
          · rw [hr, Oper.uponIn_enter]
            refine ⟨fun h => by simp [FR] at h, (callsIn_FR hc).mono ?_⟩
            rintro e w' ⟨rfl, hw'⟩
            exact ih _ _ w' V p b env hs (hinv w' hw') (by omega)
      · rw [if_neg (by rw [hw1]; exact Bool.false_ne_true)]
        exact ⟨fun _ _ => trivial, ih _ _ w V p b env hs (hinv w I.st) (by omega)⟩
    · -- it was not
      have hiV : i < V.length := by rw [I.vsize]; exact hlt
      have hdV : ∀ j ∈ bindsOf o, In V j := fun j hj => I.sub j (hdep j hj)
      have hon : onth all i = some o := by rw [← onth_eq]; exact ho'
      obtain ⟨safe, p', hvc, hpb, hsafe⟩ : ∃ safe p', (guardK all env o.guard (evc G T hs env o.op fun v hs' => wkK safe hs hs' (dstK N o.dst v env fun env' => planVC G T N all p' env' hs' K)) (dstK N o.dst undef env fun env' => planVC G T N all p' env' hs K)) ∧
          planB all p' (V.set i true) = true ∧ (safe = true → safeB all V i = true) := by
        have hpb := I.pb
        have hvc := I.vc
        cases p with
        | done =>
          exfalso
          unfold planB at hpb
          have := List.all_eq_true.1 hpb V[i] (List.getElem_mem hiV)
          exact hin (by unfold In; rw [List.getElem?_eq_getElem hiV]; exact congrArg some this)
        | q j r => exact absurd rfl (hnq j r)
        | one k safe r =>
          unfold planB at hpb
          simp only [Bool.and_eq_true] at hpb
          have := only_spec I.vsize hpb.1.1.1 ho' hin hdV
          simp only [List.mem_cons, List.not_mem_nil, or_false] at this
          subst this
          refine ⟨safe, r, ?_, hpb.2, fun h => ?_⟩
          · change (match onth all i with
              | some o => guardK all env o.guard (evc G T hs env o.op fun v hs' => wkK safe hs hs' (dstK N o.dst v env fun env' => planVC G T N all r env' hs' K)) (dstK N o.dst undef env fun env' => planVC G T N all r env' hs K)
              | none => False) at hvc
            rwa [hon] at hvc
          · have := hpb.1.2
            rw [h] at this
            simpa using this
        | two k r j s =>
          unfold planB at hpb
          simp only [Bool.and_eq_true] at hpb
          have := only_spec I.vsize hpb.1.1.1.1 ho' hin hdV
          change Both
            (match onth all k with
            | some o => guardK all env o.guard (evc G T hs env o.op fun v hs' => wkK false hs hs' (dstK N o.dst v env fun env' => planVC G T N all r env' hs' K)) (dstK N o.dst undef env fun env' => planVC G T N all r env' hs K)
            | none => False)
            (match onth all j with
            | some o => guardK all env o.guard (evc G T hs env o.op fun v hs' => wkK false hs hs' (dstK N o.dst v env fun env' => planVC G T N all s env' hs' K)) (dstK N o.dst undef env fun env' => planVC G T N all s env' hs K)
            | none => False) at hvc
          simp only [List.mem_cons, List.not_mem_nil, or_false] at this
          rcases this with rfl | rfl
          · have h1 := hvc.fst
            rw [hon] at h1
            exact ⟨false, r, h1, hpb.1.2, fun h => by cases h⟩
          · have h1 := hvc.snd
            rw [hon] at h1
            exact ⟨false, s, h1, hpb.2, fun h => by cases h⟩
      have hinv : ∀ v env2 hs2 w', Fits ds N env2 (b.put o.dst v) → St G hs2 w' → planVC G T N all p' env2 hs2 K → (∀ k x, all[k]? = some x → In V k → listed.getD k false = false → pureOp x.op = true ∨ ∀ w, St G hs2 w → St G hs w) →
          Inv G T ds N all K (listed.setIfInBounds i true) (a.put o.dst v) w' (V.set i true) p' (b.put o.dst v) env2 hs2 := by
        intro v env2 hs2 w' hf2 hw' hvc2 hweak
        refine ⟨hsz', by simp [I.vsize], by cases o.dst <;> simp [Act.put, I.asize], by cases o.dst <;> simp [Act.put, I.adef], ?_, hL', closed_set I.closedV hiV ho' hdV, hf2, hw', hvc2, hpb, ?_, ?_⟩
        · intro k hk
          rw [in_set hiV]
          rcases getD_set hk with rfl | hk
          · exact .inl rfl
          · exact .inr (I.sub k hk)
        · intro k x hx hk hun
          obtain ⟨hne, hun⟩ := hnot k hun
          have hk' := ((in_set hiV).1 hk).resolve_left hne
          refine (I.pend k x hx hk' hun).put hW I.closedV hx hk' ho' hin (fun t ht hdt => ?_) (hweak k x hx hk' hun)
          rcases (wellB_spec hW hx).waits t ht i o ho' hdt with h | h | h
          · exact hin (I.closedV k x hk' hx i h)
          · rw [hdep k h] at hun; cases hun
          · exact hne h.symm
        · intro t htn
          by_cases hd : o.dst = some t
          · rw [hd]
            exact put_same (by rw [I.asize, I.fits.size])
          · rw [put_other hd, put_other hd]
            refine I.same t fun j x hx hj hun => htn j x hx ((in_set hiV).2 (.inr hj)) ?_
            cases hb : (listed.setIfInBounds i true).getD j false with
            | false => rfl
            | true =>
              rcases getD_set hb with h | h
              · rw [h] at hj; exact absurd hj hin
              · rw [hun] at h; cases h
      rcases guardK_out I.fits hvc with ⟨hw1, hrun⟩ | ⟨hw1, hskip⟩
      · rw [if_pos hw1]
        have he : execOp a.eval o = execOp b.eval o := same_exec D.sel hlook
        have hdo := evc_sound hT I.fits.agrees hrun
        have key : ∀ v hs2 w', wkK safe hs hs2 (dstK N o.dst v env fun env' => planVC G T N all p' env' hs2 K) → St G hs2 w' →
            wpAnyIn (FR r) 0 G.P .any all.toArray Q fuel (listed.setIfInBounds i true) (a.put o.dst v) w' := by
          intro v hs2 w' hd hw'
          obtain ⟨hd, hweak⟩ : (dstK N o.dst v env fun env' => planVC G T N all p' env' hs2 K) ∧ (∀ k x, all[k]? = some x → In V k → listed.getD k false = false → pureOp x.op = true ∨ ∀ w, St G hs2 w → St G hs w) := by
            cases safe with
            | true =>
              refine ⟨hd, fun k x hx hk hun => ?_⟩
              rcases safe_spec I.vsize (hsafe rfl) ho' I.closedL hdep k x hx hk with h | h
              · exact .inl h
              · rw [hun] at h; cases h
            | false =>
              obtain ⟨h1, h2⟩ := Need.out hd
              exact ⟨h2, fun _ _ _ _ _ => .inr fun w hw => hw.sub h1⟩
          obtain ⟨env2, h1, h2⟩ := dstK_out I.fits hd
          exact ih _ _ w' _ _ _ env2 hs2 (hinv v env2 hs2 w' h2 hw' h1 hweak) (by omega)
        unfold Oper.wpIn
        refine ⟨fun _ _ => trivial, ?_⟩
        rw [Oper.semAt_eq _ _ _ (by
          intro c hc
          have := no_defer hdo I.st c
          exact this hc), he]
        rcases hdo w I.st with ⟨v, w', hs2, hr, hw', hk⟩ | ⟨w', hs2, hr, hw', hk⟩ | ⟨f, args, hr, hc⟩
        · rw [hr]; exact key v hs2 w' hk hw'
        · rw [hr]; exact key undef hs2 w' hk hw'
        · rw [hr, Oper.uponIn_enter]
          refine ⟨fun h => by simp [FR] at h, (callsIn_FR hc).mono ?_⟩
          rintro e w' ⟨v, hs2, rfl, hw', hk⟩
          exact key v hs2 w' hk hw'
      · rw [if_neg (by rw [hw1]; exact Bool.false_ne_true)]
        obtain ⟨env2, h1, h2⟩ := dstK_out I.fits hskip
        exact ⟨fun _ _ => trivial, ih _ _ w _ _ _ env2 hs (hinv undef env2 hs w h2 I.st h1 (fun _ _ _ _ _ => .inr fun w hw => hw)) (by omega)⟩

theorem draw_sound (hT : TabOK G.P T) {id : Nat} {ops : Array Oper} {p : Plan} {Q : Exit → Act → World → Prop} {env : Env} {hs : Hp} {a : Act} {w : World}
    (hQ : ∀ env hs a w, K env hs → Fits ds N env a → St G hs w → Q .normal a w) (hW : wellB ops.toList = true) (hB : planB ops.toList p (List.replicate ops.toList.length false) = true)
    (h : planVC G T N ops.toList p env hs K) (hf : Fits ds N env a) (hw : St G hs w) :
    (Code.region id ops true).wpIn (FR r) 0 G.P Q a w := by
  have hno : ∀ (i : Nat) (h : (Array.replicate ops.toList.length false).getD i false = true), False := by
    intro i h
    simp [Array.getD_eq_getD_getElem?, Array.getElem?_replicate] at h
    split at h <;> simp at h
  have hnV : ∀ i, ¬ In (List.replicate ops.toList.length false) i := by
    intro i hi
    unfold In at hi
    rw [List.getElem?_replicate] at hi
    split at hi <;> simp at hi
  have I : Inv G T ds N ops.toList K (Array.replicate ops.toList.length false) a { w with drawn := w.drawn + 1 } (List.replicate ops.toList.length false) p a env hs :=
    ⟨by simp, by simp, hf.size, hf.defers, fun i hi => (hno i hi).elim, fun i o hi => (hno i hi).elim, fun i o hi => (hnV i hi).elim, hf, hw.drawn _, h, hB, fun i o _ hi => (hnV i hi).elim, fun _ _ => rfl⟩
  have := draw_any (r := r) hT hW hQ ops.size (Array.replicate ops.toList.length false) a _ _ p a env hs I (by
    unfold todo
    have := List.length_filter_le (fun i => !(Array.replicate ops.toList.length false).getD i true) (List.range ops.toList.length)
    simpa using this)
  refine wpIn_region_any hT.mixed ?_
  rw [Array.toArray_toList, Array.length_toList] at this
  exact this

end Go.Proofs.Ytbccpibgjjiikaa
