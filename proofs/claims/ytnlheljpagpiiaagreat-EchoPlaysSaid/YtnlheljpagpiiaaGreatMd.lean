/-
  A region whose order is open, as a whole. Code, and calls: what a function's text comes to. What a walk by conditions leans on: calls by their contracts; numbers that fit. Unsigned numbers as words of bits. Whole structs read from a block, and parts of one.
-/
import Derived.Test.YtnlheljpagpiiaaGreatMc
import Derived.Deep.LoopGhost
import Derived.Scope
namespace Go.Proofs.YtnlheljpagpiiaaGreat
section
set_option linter.unusedVariables false
set_option linter.unusedSimpArgs false
variable {G : Cx} {T : Tab} {r : Option Nat} {ds : List Deferred} {N : Nat} {all : List Oper} {K : Env → Hp → Prop}

theorem QRun.noDefer {hs : Hp} {b : Act} {o : Oper} {v : Value} (h : QRun G hs b.eval o v) {hs1 : Hp} {w : World} (hw : St G hs1 w) (h1 : ∀ w', St G hs1 w' → St G hs w') : ∀ c, o.op ≠ .defer c := by
  intro c hc
  rcases h.1 hs1 w hw h1 with hr | ⟨f, args, hr, _⟩ <;> (obtain ⟨d, hd⟩ := exec_defer hc hr; cases hd)
theorem QRun.pureNoDefer {hs : Hp} {b : Act} {o : Oper} {v : Value} (h : QRun G hs b.eval o v) (hp : pureOp o.op = true) : ∀ c, o.op ≠ .defer c := by
  intro c hc
  obtain ⟨d, hd⟩ := exec_defer hc (h.2 hp bareW)
  cases hd
theorem draw_any (hT : TabOK G.P T) {Q : Exit → Act → World → Prop} (hW : wellB all = true)
    (hQ : ∀ env hs a w, K env hs → Fits ds N env a → St G hs w → Q .normal a w) :
    ∀ (fuel : Nat) (listed : Array Bool) (a : Act) (w : World) (V : List Bool) (p : Plan) (b : Act) (env : Env) (hs : Hp), Inv G T ds N all K listed a w V p b env hs → todo all.length listed ≤ fuel →
      wpAnyIn (FR r) 0 G.P .any all.toArray Q fuel listed a w := by
  have hall : ∀ {listed : Array Bool}, listed.size = all.length → Region.ready .any all.toArray listed = [] → ∀ j, j < all.length → listed.getD j false = true := by
    intro listed hsz hr j
    induction j using Nat.strongRecOn with
    | _ j ih =>
      intro hj
      cases hb : listed.getD j false with
      | true => rfl
      | false =>
        have : j ∈ Region.ready .any all.toArray listed := mem_ready.2 ⟨by rw [getD_lt hsz hj]; exact hb, all[j], by simp [hj], fun e he hbind => by
          have D := wellB_spec hW (List.getElem?_eq_getElem hj)
          have := D.back e.on (mem_binds.2 ⟨e, he, hbind, rfl⟩)
          exact ih e.on this (by omega)⟩
        rw [hr] at this
        cases this
  have hend : ∀ {listed : Array Bool} {a : Act} {w : World} {V : List Bool} {p : Plan} {b : Act} {env : Env} {hs : Hp}, Inv G T ds N all K listed a w V p b env hs → Region.ready .any all.toArray listed = [] → Q .normal a w := by
    intro listed a w V p b env hs I hr
    obtain ⟨V, p, b, env, I, hnq⟩ := Inv.ahead hT hW p V b env hs I
    have hl := hall I.size hr
    have hV : ∀ i, i < V.length → In V i := fun i hi => I.sub i (hl i (by rw [← I.vsize]; exact hi))
    have hp : p = .done := by
      have hpb := I.pb
      cases p with
      | done => rfl
      | q j r => exact absurd rfl (hnq j r)
      | one i s r =>
        unfold planB at hpb
        simp only [Bool.and_eq_true] at hpb
        obtain ⟨o, _, _, h1, h2, _⟩ := open_spec hpb.1.1.2
        exact absurd (hV i h1) h2
      | two i r j s =>
        unfold planB at hpb
        simp only [Bool.and_eq_true] at hpb
        obtain ⟨o, _, _, h1, h2, _⟩ := open_spec hpb.1.1.1.2
        exact absurd (hV i h1) h2
    subst hp
    have hab : a = b := by
      have ht : a.tmps = b.tmps := by
        apply Array.ext_getElem?
        intro t
        exact I.same t fun i o ho hi hu => by
          have : i < all.length := (List.getElem?_eq_some_iff.1 ho).1
          rw [hl i this] at hu
          cases hu
      have hd : a.defers = b.defers := by rw [I.adef, I.fits.defers]
      cases a; cases b; simp_all
    rw [hab]
    exact hQ env hs b w I.vc I.fits I.st
  intro fuel
  induction fuel with
  | zero =>
    intro listed a w V p b env hs I ht
    have hr : Region.ready .any all.toArray listed = [] := by
      rw [List.eq_nil_iff_forall_not_mem]
      intro i hi
      obtain ⟨h1, o, ho, _⟩ := mem_ready.1 hi
      have hlt : i < all.length := by
        rw [List.getElem?_toArray] at ho
        exact (List.getElem?_eq_some_iff.1 ho).1
      have := todo_set hlt I.size h1
      omega
    exact ⟨hr, hend I hr⟩
  | succ fuel ih =>
    intro listed a w V p b env hs I ht
    refine ⟨hend I, fun i hi => ?_⟩
    obtain ⟨V, p, b, env, I, hnq⟩ := Inv.ahead hT hW p V b env hs I
    obtain ⟨hu, o, ho, hdeps⟩ := mem_ready.1 hi
    have ho' : all[i]? = some o := by rwa [List.getElem?_toArray] at ho
    have hlt : i < all.length := (List.getElem?_eq_some_iff.1 ho').1
    have hu' : listed.getD i false = false := by rw [← getD_lt I.size hlt]; exact hu
    have htd := todo_set hlt I.size hu
    have D := wellB_spec hW ho'
    have hdep : ∀ j ∈ bindsOf o, listed.getD j false = true := by
      intro j hj
      obtain ⟨e, he, hb, hon⟩ := mem_binds.1 hj
      rw [← hon]
      exact hdeps e he hb
    have hlook : ∀ t ∈ o.looksAt all.toArray, a.tmps[t]? = b.tmps[t]? := by
      intro t htl
      refine I.same t fun j x hx hj hun hd => ?_
      rw [hdep j ((I.pend j x hx ‹_› hun).anti i o ho' t htl hd)] at hun
      cases hun
    have hsz' : (listed.setIfInBounds i true).size = all.length := by simp [I.size]
    have hL' : Closed all fun k => (listed.setIfInBounds i true).getD k false = true := by
      intro k x hk hx j hj
      have hjl : j < all.length := Nat.lt_trans ((wellB_spec hW hx).back j hj) (List.getElem?_eq_some_iff.1 hx).1
      rcases getD_set hk with rfl | hk
      · rw [ho'] at hx; cases hx
        exact getD_set' I.size hjl (.inr (hdep j hj))
      · exact getD_set' I.size hjl (.inr (I.closedL k x hk hx j hj))
    have hnot : ∀ k, (listed.setIfInBounds i true).getD k false = false → k ≠ i ∧ listed.getD k false = false := by
      intro k hk
      refine ⟨?_, ?_⟩
      · rintro rfl
        rw [getD_set' I.size hlt (.inl rfl)] at hk; cases hk
      · cases hx : listed.getD k false with
        | false => rfl
        | true =>
          by_cases hkl : k < all.length
          · rw [getD_set' I.size hkl (.inr hx)] at hk; cases hk
          · rw [Array.getD_eq_getD_getElem?, Array.getElem?_eq_none (by rw [I.size]; omega)] at hx; cases hx
    unfold wpOpIn
    rw [ho]
    dsimp only
    rw [same_wanted hlook]
    by_cases hin : In V i
    · -- it was reckoned
      obtain ⟨v, hs0, hslot, hdoes⟩ := (I.pend i o ho' hin hu').raw
      have hinv : ∀ w', St G hs w' → Inv G T ds N all K (listed.setIfInBounds i true) (a.put o.dst v) w' V p b env hs := by
        intro w' hw'
        refine ⟨hsz', I.vsize, by cases o.dst <;> simp [Act.put, I.asize], by cases o.dst <;> simp [Act.put, I.adef], ?_, hL', I.closedV, I.fits, hw', I.vc, I.pb, fun k x hx hk hun => I.pend k x hx hk (hnot k hun).2, ?_⟩
        · intro k hk
          rcases getD_set hk with rfl | hk
          · exact hin
          · exact I.sub k hk
        · intro t htn
          by_cases hd : o.dst = some t
          · have hb1 := hslot t hd
            rw [hb1, hd]
            have hbs : t < b.tmps.size := (Array.getElem?_eq_some_iff.1 hb1).1
            exact Array.getElem?_setIfInBounds_self_of_lt (by rw [I.asize, ← I.fits.size]; exact hbs)
          · rw [put_other hd]
            refine I.same t fun j x hx hj hun => ?_
            by_cases hji : j = i
            · subst hji
              rw [ho'] at hx
              obtain rfl := Option.some.inj hx
              exact hd
            · refine htn j x hx hj ?_
              cases hb : (listed.setIfInBounds i true).getD j false with
              | false => rfl
              | true =>
                rcases getD_set hb with h | h
                · exact absurd h hji
                · rw [hun] at h; cases h
      rcases hdoes with ⟨hw1, hq, hst⟩ | ⟨hw1, rfl⟩
      · rw [if_pos hw1]
        have he : execOp a.eval o = execOp b.eval o := same_exec D.sel hlook
        unfold Oper.wpIn
        refine ⟨fun _ _ => trivial, ?_⟩
        rcases hst with hp | hst
        · rw [Oper.semAt_eq _ _ _ (hq.pureNoDefer hp), he, hq.2 hp w]
          exact ih _ _ w V p b env hs (hinv w I.st) (by omega)
        · rw [Oper.semAt_eq _ _ _ (hq.noDefer I.st hst), he]
          rcases hq.1 hs w I.st hst with hr | ⟨f, args, hr, hc⟩
          · rw [hr]
            exact ih _ _ w V p b env hs (hinv w I.st) (by omega)
          · rw [hr, Oper.uponIn_enter]
            refine ⟨fun h => by simp [FR] at h, (callsIn_FR hc).mono ?_⟩
            rintro e w' ⟨rfl, hw'⟩
            exact ih _ _ w' V p b env hs (hinv w' hw') (by omega)
      · rw [if_neg (by rw [hw1]; exact Bool.false_ne_true)]
        exact ⟨fun _ _ => trivial, ih _ _ w V p b env hs (hinv w I.st) (by omega)⟩
    · -- it was not
      have hiV : i < V.length := by rw [I.vsize]; exact hlt
      have hdV : ∀ j ∈ bindsOf o, In V j := fun j hj => I.sub j (hdep j hj)
      have hon : onth all i = some o := by rw [← onth_eq]; exact ho'
      obtain ⟨safe, p', hvc, hpb, hsafe⟩ : ∃ safe p', (guardK all env o.guard (evc G T hs env o.op fun v hs' => wkK safe hs hs' (dstK N o.dst v env fun env' => planVC G T N all p' env' hs' K)) (dstK N o.dst undef env fun env' => planVC G T N all p' env' hs K)) ∧
          planB all p' (V.set i true) = true ∧ (safe = true → safeB all V i = true) := by
        have hpb := I.pb
        have hvc := I.vc
        cases p with
        | done =>
          exfalso
          unfold planB at hpb
          have := List.all_eq_true.1 hpb V[i] (List.getElem_mem hiV)
          exact hin (by unfold In; rw [List.getElem?_eq_getElem hiV]; exact congrArg some this)
        | q j r => exact absurd rfl (hnq j r)
        | one k safe r =>
          unfold planB at hpb
          simp only [Bool.and_eq_true] at hpb
          have := only_spec I.vsize hpb.1.1.1 ho' hin hdV
          simp only [List.mem_cons, List.not_mem_nil, or_false] at this
          subst this
          refine ⟨safe, r, ?_, hpb.2, fun h => ?_⟩
          · change (match onth all i with
              | some o => guardK all env o.guard (evc G T hs env o.op fun v hs' => wkK safe hs hs' (dstK N o.dst v env fun env' => planVC G T N all r env' hs' K)) (dstK N o.dst undef env fun env' => planVC G T N all r env' hs K)
              | none => False) at hvc
            rwa [hon] at hvc
          · have := hpb.1.2
            rw [h] at this
            simpa using this
        | two k r j s =>
          unfold planB at hpb
          simp only [Bool.and_eq_true] at hpb
          have := only_spec I.vsize hpb.1.1.1.1 ho' hin hdV
          change Both
            (match onth all k with
            | some o => guardK all env o.guard (evc G T hs env o.op fun v hs' => wkK false hs hs' (dstK N o.dst v env fun env' => planVC G T N all r env' hs' K)) (dstK N o.dst undef env fun env' => planVC G T N all r env' hs K)
            | none => False)
            (match onth all j with
            | some o => guardK all env o.guard (evc G T hs env o.op fun v hs' => wkK false hs hs' (dstK N o.dst v env fun env' => planVC G T N all s env' hs' K)) (dstK N o.dst undef env fun env' => planVC G T N all s env' hs K)
            | none => False) at hvc
          simp only [List.mem_cons, List.not_mem_nil, or_false] at this
          rcases this with rfl | rfl
          · have h1 := hvc.fst
            rw [hon] at h1
            exact ⟨false, r, h1, hpb.1.2, fun h => by cases h⟩
          · have h1 := hvc.snd
            rw [hon] at h1
            exact ⟨false, s, h1, hpb.2, fun h => by cases h⟩
      have hinv : ∀ v env2 hs2 w', Fits ds N env2 (b.put o.dst v) → St G hs2 w' → planVC G T N all p' env2 hs2 K → (∀ k x, all[k]? = some x → In V k → listed.getD k false = false → pureOp x.op = true ∨ ∀ w, St G hs2 w → St G hs w) →
          Inv G T ds N all K (listed.setIfInBounds i true) (a.put o.dst v) w' (V.set i true) p' (b.put o.dst v) env2 hs2 := by
        intro v env2 hs2 w' hf2 hw' hvc2 hweak
        refine ⟨hsz', by simp [I.vsize], by cases o.dst <;> simp [Act.put, I.asize], by cases o.dst <;> simp [Act.put, I.adef], ?_, hL', closed_set I.closedV hiV ho' hdV, hf2, hw', hvc2, hpb, ?_, ?_⟩
        · intro k hk
          rw [in_set hiV]
          rcases getD_set hk with rfl | hk
          · exact .inl rfl
          · exact .inr (I.sub k hk)
        · intro k x hx hk hun
          obtain ⟨hne, hun⟩ := hnot k hun
          have hk' := ((in_set hiV).1 hk).resolve_left hne
          refine (I.pend k x hx hk' hun).put hW I.closedV hx hk' ho' hin (fun t ht hdt => ?_) (hweak k x hx hk' hun)
          rcases (wellB_spec hW hx).waits t ht i o ho' hdt with h | h | h
          · exact hin (I.closedV k x hk' hx i h)
          · rw [hdep k h] at hun; cases hun
          · exact hne h.symm
        · intro t htn
          by_cases hd : o.dst = some t
          · rw [hd]
            exact put_same (by rw [I.asize, I.fits.size])
          · rw [put_other hd, put_other hd]
            refine I.same t fun j x hx hj hun => htn j x hx ((in_set hiV).2 (.inr hj)) ?_
            cases hb : (listed.setIfInBounds i true).getD j false with
            | false => rfl
            | true =>
              rcases getD_set hb with h | h
              · rw [h] at hj; exact absurd hj hin
              · rw [hun] at h; cases h
      rcases guardK_out I.fits hvc with ⟨hw1, hrun⟩ | ⟨hw1, hskip⟩
      · rw [if_pos hw1]
        have he : execOp a.eval o = execOp b.eval o := same_exec D.sel hlook
        have hdo := evc_sound hT I.fits.agrees hrun
        have key : ∀ v hs2 w', wkK safe hs hs2 (dstK N o.dst v env fun env' => planVC G T N all p' env' hs2 K) → St G hs2 w' →
            wpAnyIn (FR r) 0 G.P .any all.toArray Q fuel (listed.setIfInBounds i true) (a.put o.dst v) w' := by
          intro v hs2 w' hd hw'
          obtain ⟨hd, hweak⟩ : (dstK N o.dst v env fun env' => planVC G T N all p' env' hs2 K) ∧ (∀ k x, all[k]? = some x → In V k → listed.getD k false = false → pureOp x.op = true ∨ ∀ w, St G hs2 w → St G hs w) := by
            cases safe with
            | true =>
              refine ⟨hd, fun k x hx hk hun => ?_⟩
              rcases safe_spec I.vsize (hsafe rfl) ho' I.closedL hdep k x hx hk with h | h
              · exact .inl h
              · rw [hun] at h; cases h
            | false =>
              obtain ⟨h1, h2⟩ := Need.out hd
              exact ⟨h2, fun _ _ _ _ _ => .inr fun w hw => hw.sub h1⟩
          obtain ⟨env2, h1, h2⟩ := dstK_out I.fits hd
          exact ih _ _ w' _ _ _ env2 hs2 (hinv v env2 hs2 w' h2 hw' h1 hweak) (by omega)
        unfold Oper.wpIn
        refine ⟨fun _ _ => trivial, ?_⟩
        rw [Oper.semAt_eq _ _ _ (by
          intro c hc
          have := no_defer hdo I.st c
          exact this hc), he]
        rcases hdo w I.st with ⟨v, w', hs2, hr, hw', hk⟩ | ⟨w', hs2, hr, hw', hk⟩ | ⟨f, args, hr, hc⟩
        · rw [hr]; exact key v hs2 w' hk hw'
        · rw [hr]; exact key undef hs2 w' hk hw'
        · rw [hr, Oper.uponIn_enter]
          refine ⟨fun h => by simp [FR] at h, (callsIn_FR hc).mono ?_⟩
          rintro e w' ⟨v, hs2, rfl, hw', hk⟩
          exact key v hs2 w' hk hw'
      · rw [if_neg (by rw [hw1]; exact Bool.false_ne_true)]
        obtain ⟨env2, h1, h2⟩ := dstK_out I.fits hskip
        exact ⟨fun _ _ => trivial, ih _ _ w _ _ _ env2 hs (hinv undef env2 hs w h2 I.st h1 (fun _ _ _ _ _ => .inr fun w hw => hw)) (by omega)⟩

theorem draw_sound (hT : TabOK G.P T) {id : Nat} {ops : Array Oper} {p : Plan} {Q : Exit → Act → World → Prop} {env : Env} {hs : Hp} {a : Act} {w : World}
    (hQ : ∀ env hs a w, K env hs → Fits ds N env a → St G hs w → Q .normal a w) (hW : wellB ops.toList = true) (hB : planB ops.toList p (List.replicate ops.toList.length false) = true)
    (h : planVC G T N ops.toList p env hs K) (hf : Fits ds N env a) (hw : St G hs w) :
    (Code.region id ops true).wpIn (FR r) 0 G.P Q a w := by
  have hno : ∀ (i : Nat) (h : (Array.replicate ops.toList.length false).getD i false = true), False := by
    intro i h
    simp [Array.getD_eq_getD_getElem?, Array.getElem?_replicate] at h
    split at h <;> simp at h
  have hnV : ∀ i, ¬ In (List.replicate ops.toList.length false) i := by
    intro i hi
    unfold In at hi
    rw [List.getElem?_replicate] at hi
    split at hi <;> simp at hi
  have I : Inv G T ds N ops.toList K (Array.replicate ops.toList.length false) a { w with drawn := w.drawn + 1 } (List.replicate ops.toList.length false) p a env hs :=
    ⟨by simp, by simp, hf.size, hf.defers, fun i hi => (hno i hi).elim, fun i o hi => (hno i hi).elim, fun i o hi => (hnV i hi).elim, hf, hw.drawn _, h, hB, fun i o _ hi => (hnV i hi).elim, fun _ _ => rfl⟩
  have := draw_any (r := r) hT hW hQ ops.size (Array.replicate ops.toList.length false) a _ _ p a env hs I (by
    unfold todo
    have := List.length_filter_le (fun i => !(Array.replicate ops.toList.length false).getD i true) (List.range ops.toList.length)
    simpa using this)
  refine wpIn_region_any hT.mixed ?_
  rw [Array.toArray_toList, Array.length_toList] at this
  exact this
end
section
set_option linter.unusedVariables false
set_option linter.unusedSimpArgs false
variable {G : Cx} {T : Tab} {r : Option Nat} {ds : List Deferred}

def Sub (e' e : Env) : Prop := ∀ i v, lk e' i = some v → lk e i = some v
/-- What is known may be said by less. -/
def Weak (G : Cx) (I : Env → Hp → Prop) (env : Env) (hs : Hp) : Prop := ∃ env' hs', Sub env' env ∧ (∀ w, St G hs w → St G hs' w) ∧ I env' hs'
structure LoopVC (G : Cx) (body : Env → Hp → (Env → Hp → Prop) → Prop) (env : Env) (hs : Hp) : Prop where wrap ::
  raw : ∃ I : Nat → Env → Hp → Prop, (∃ n, Weak G (I n) env hs) ∧ ∀ n env hs, I n env hs → body env hs fun env' hs' => ∃ m, m < n ∧ Weak G (I m) env' hs'
theorem LoopVC_eq (G : Cx) (body : Env → Hp → (Env → Hp → Prop) → Prop) (env : Env) (hs : Hp) : LoopVC G body env hs = (∃ I : Nat → Env → Hp → Prop, (∃ n, Weak G (I n) env hs) ∧ ∀ n env hs, I n env hs → body env hs fun env' hs' => ∃ m, m < n ∧ Weak G (I m) env' hs') := propext ⟨fun h => h.raw, fun h => ⟨h⟩⟩
theorem LoopVC.mk {body : Env → Hp → (Env → Hp → Prop) → Prop} {env : Env} {hs : Hp} (I : Nat → Env → Hp → Prop) (n : Nat) (h0 : Weak G (I n) env hs)
    (h : ∀ n env hs, I n env hs → body env hs fun env' hs' => ∃ m, m < n ∧ Weak G (I m) env' hs') : LoopVC G body env hs := by
  rw [LoopVC_eq]
  exact ⟨I, ⟨n, h0⟩, h⟩
def codeVC (G : Cx) (T : Tab) (N : Nat) (c : Code) : Env → Hp → (Env → Hp → Prop) → (Nat → Env → Hp → Prop) → (Env → Hp → Prop) → Prop :=
  Code.rec (motive := fun _ => Env → Hp → (Env → Hp → Prop) → (Nat → Env → Hp → Prop) → (Env → Hp → Prop) → Prop)
    (skip := fun env hs K _ _ => K env hs)
    (label := fun _ env hs K _ _ => K env hs)
    (region := fun _ ops draw env hs K _ _ => match draw with
      | false => opsVC G T N ops.toList ops.toList env hs K
      | true => Need (wellB ops.toList = true) (Pick (fun p => planB ops.toList p (List.replicate ops.toList.length false) = true) fun p => planVC G T N ops.toList p env hs K))
    (seq := fun _ _ ia ib env hs K X R => ia env hs (fun env' hs' => ib env' hs' K X R) X R)
    (cond := fun c _ _ ia ib env hs K X R => evK env c fun
      | .bool true => ia env hs K X R
      | .bool false => ib env hs K X R
      | _ => False)
    (block := fun id _ ic env hs K X R => ic env hs K (fun i env' hs' => match Nat.beq i id with
        | true => K env' hs'
        | false => X i env' hs') R)
    (exit := fun id env hs _ X _ => X id env hs)
    (ret := fun env hs _ _ R => R env hs)
    (scope := fun _ _ _ _ _ _ _ => False)
    (loop := fun _ ic env hs _ X R => LoopVC G (fun env' hs' K' => ic env' hs' K' X R) env hs)
    (rangeFunc := fun _ _ _ _ _ _ _ _ _ _ _ => False)
    (goto := fun _ _ _ _ _ _ => False)
    (refuse := fun _ _ _ _ _ _ => False) c

/-- What the conditions mean: every frame and world that fit end so. -/
def Met (G : Cx) (ds : List Deferred) (N : Nat) (K : Env → Hp → Prop) (X : Nat → Env → Hp → Prop) (R : Env → Hp → Prop) (Q : Exit → Act → World → Prop) : Prop :=
  (∀ env hs a w, K env hs → Fits ds N env a → St G hs w → Q .normal a w) ∧ (∀ id env hs a w, X id env hs → Fits ds N env a → St G hs w → Q (.exit id) a w) ∧
  (∀ env hs a w, R env hs → Fits ds N env a → St G hs w → Q .ret a w)
theorem Fits.sub {N : Nat} {env env' : Env} {a : Act} (h : Fits ds N env a) (hs : Sub env' env) : Fits ds N env' a := ⟨h.size, h.defers, fun i v hi => h.has i v (hs i v hi)⟩

theorem wpIn_loop_ghost' {F : Fence} {rm : Nat} {P : Program} {Q : Exit → Act → World → Prop} {a : Act} {w : World} {c : Code} (I : Nat → Act → World → Prop) (n₀ : Nat) (h₀ : I n₀ a w)
    (round : ∀ n a w, I n a w → c.wpIn F rm P (Exit.then (fun a' w' => ∃ n', n' < n ∧ I n' a' w') Q) a w) : (Code.loop c).wpIn F rm P Q a w := by
  refine wpIn_loop (fun a w => ∃ n, I n a w) (fun a w => leastOf (fun n => I n a w)) ⟨n₀, h₀⟩ ?_
  intro a w hI
  refine wpIn_mono (round _ a w (leastOf_spec hI).1) ?_
  intro e a' w' hq
  cases e with
  | normal =>
    obtain ⟨n', hlt, hI'⟩ := hq
    exact show (∃ n, I n a' w') ∧ leastOf (fun n => I n a' w') < leastOf (fun n => I n a w) from ⟨⟨n', hI'⟩, Nat.lt_of_le_of_lt ((leastOf_spec ⟨n', hI'⟩).2 n' hI') hlt⟩
  | _ => exact hq

theorem codeVC_sound (hT : TabOK G.P T) {N : Nat} (c : Code) : ∀ (env : Env) (hs : Hp) (K : Env → Hp → Prop) (X : Nat → Env → Hp → Prop) (R : Env → Hp → Prop) (Q : Exit → Act → World → Prop) (a : Act) (w : World),
    codeVC G T N c env hs K X R → Met G ds N K X R Q → Fits ds N env a → St G hs w → c.wpIn (FR r) 0 G.P Q a w := by
  induction c with
  | skip => intro env hs K X R Q a w h hM hf hw; exact wpIn_skip (hM.1 _ _ _ _ h hf hw)
  | label l => intro env hs K X R Q a w h hM hf hw; exact wpIn_label (hM.1 _ _ _ _ h hf hw)
  | region id ops draw =>
    intro env hs K X R Q a w h hM hf hw
    cases draw with
    | false => exact region_sound hT hM.1 h hf hw
    | true =>
      obtain ⟨h1, h2⟩ := Need.out h
      obtain ⟨p, h3, h4⟩ := Pick.out h2
      exact draw_sound hT hM.1 h1 h3 h4 hf hw
  | seq x y ihx ihy =>
    intro env hs K X R Q a w h hM hf hw
    refine wpIn_seq (ihx _ _ _ _ _ _ _ _ h ⟨fun env' hs' a' w' hk hf' hw' => ?_, fun id env' hs' a' w' hk hf' hw' => hM.2.1 _ _ _ _ _ hk hf' hw', fun env' hs' a' w' hk hf' hw' => hM.2.2 _ _ _ _ hk hf' hw'⟩ hf hw)
    exact ihy _ _ _ _ _ _ _ _ hk hM hf' hw'
  | cond c x y ihx ihy =>
    intro env hs K X R Q a w h hM hf hw
    obtain ⟨v, hv, h⟩ := evK_some h
    have hc := hf.agrees _ _ hv
    split at h
    · exact wpIn_cond hc (ihx _ _ _ _ _ _ _ _ h hM hf hw)
    · exact wpIn_cond hc (ihy _ _ _ _ _ _ _ _ h hM hf hw)
    · exact h.elim
  | block id c ih =>
    intro env hs K X R Q a w h hM hf hw
    refine wpIn_block (ih _ _ _ _ _ _ _ _ h ⟨fun env' hs' a' w' hk hf' hw' => hM.1 _ _ _ _ hk hf' hw', fun i env' hs' a' w' hk hf' hw' => ?_, fun env' hs' a' w' hk hf' hw' => hM.2.2 _ _ _ _ hk hf' hw'⟩ hf hw)
    show (if i = id then Q .normal a' w' else Q (.exit i) a' w')
    dsimp only at hk
    split at hk
    · rename_i hb
      rw [if_pos (Nat.eq_of_beq_eq_true hb)]
      exact hM.1 _ _ _ _ hk hf' hw'
    · rename_i hb
      rw [if_neg (by rintro rfl; rw [Nat.beq_refl] at hb; cases hb)]
      exact hM.2.1 _ _ _ _ _ hk hf' hw'
  | loop c ih =>
    intro env hs K X R Q a w h hM hf hw
    replace h : LoopVC G (fun env' hs' K' => codeVC G T N c env' hs' K' X R) env hs := h
    rw [LoopVC_eq] at h
    obtain ⟨I, ⟨n, env1, hs1, hsub, hst, hI⟩, hround⟩ := h
    refine wpIn_loop_ghost' (fun n a w => ∃ env hs, I n env hs ∧ Fits ds N env a ∧ St G hs w) n ⟨env1, hs1, hI, hf.sub hsub, hst w hw⟩ ?_
    rintro n a w ⟨env2, hs2, hI2, hf2, hw2⟩
    refine ih _ _ _ _ _ _ _ _ (hround n env2 hs2 hI2) ⟨fun env' hs' a' w' hk hf' hw' => ?_, fun id env' hs' a' w' hk hf' hw' => hM.2.1 _ _ _ _ _ hk hf' hw', fun env' hs' a' w' hk hf' hw' => hM.2.2 _ _ _ _ hk hf' hw'⟩ hf2 hw2
    obtain ⟨m, hm, env3, hs3, hsub3, hst3, hI3⟩ := hk
    exact ⟨m, hm, env3, hs3, hI3, hf'.sub hsub3, hst3 _ hw'⟩
  | exit id => intro env hs K X R Q a w h hM hf hw; exact wpIn_exit (hM.2.1 _ _ _ _ _ h hf hw)
  | ret => intro env hs K X R Q a w h hM hf hw; exact wpIn_ret (hM.2.2 _ _ _ _ h hf hw)
  | _ => intro env hs K X R Q a w h; exact h.elim

/-! ### Calls -/
def resK (G : Cx) (T : Tab) (env : Env) (hs : Hp) (K : Value → Prop) : ResultVar → Prop
  | .tmp t => evK env (.tmp t) K
  | .cell t ty => evK env (.tmp t) fun
    | .pointer (some a) => loadK G T hs ty a K
    | _ => False
def ressK (G : Cx) (T : Tab) (env : Env) (hs : Hp) (K : List Value → Prop) : List ResultVar → Prop
  | [] => K []
  | r :: l => resK G T env hs (fun v => ressK G T env hs (fun vs => K (v :: vs)) l) r
def packed : List Value → Value
  | [v] => v
  | vs => .tuple vs.toArray
def retK (G : Cx) (T : Tab) (rs : List ResultVar) (K : Value → Hp → Prop) (env : Env) (hs : Hp) : Prop := ressK G T env hs (fun vs => K (packed vs) hs) rs
def mkEnv : List Value → Nat → Env
  | [], _ => []
  | v :: r, n => (n, v) :: mkEnv r (n + 1)
theorem mkEnv_lk : ∀ (l : List Value) (n i : Nat) (v : Value), lk (mkEnv l n) i = some v → n ≤ i ∧ l[i - n]? = some v
  | [], _, _, _, h => by simp [mkEnv, lk] at h
  | u :: r, n, i, v, h => by
    simp only [mkEnv, lk] at h
    split at h
    · rename_i hb
      obtain rfl := Nat.eq_of_beq_eq_true hb
      exact ⟨Nat.le_refl _, by simpa using h⟩
    · rename_i hb
      obtain ⟨h1, h2⟩ := mkEnv_lk r (n + 1) i v h
      refine ⟨by omega, ?_⟩
      rw [show i - n = (i - (n + 1)) + 1 by omega]
      simpa using h2
/-- How a call ends. -/
def Post (G : Cx) (K : Value → Hp → Prop) : Ending → World → Prop := fun e w' => ∃ v hs', e = .returned v ∧ K v hs' ∧ St G hs' w'

def resOf (tmps : Array Value) : ResultVar → Sem Value
  | .tmp t => pure (tmps.getD t undef)
  | .cell b t => do loadVar t (← asAddr (tmps.getD b undef))
theorem q_resK {hs : Hp} {env : Env} {a : Act} {N : Nat} {K : Value → Prop} (hT : TabOK G.P T) (hf : Fits ds N env a) (r : ResultVar) (h : resK G T env hs K r) :
    qvc G (resOf a.tmps r) hs K := by
  cases r with
  | tmp t =>
    have := evK_out hf.agrees h
    exact this
  | cell t ty =>
    obtain ⟨v, hv, h⟩ := evK_some h
    have hc := hf.agrees _ _ hv
    split at h
    · rename_i ad
      have hc' : a.tmps.getD t undef = .pointer (some ad) := hc
      show qvc G (do loadVar ty (← asAddr (a.tmps.getD t undef))) hs K
      rw [hc']
      exact q_loadK hT h
    · exact h.elim
theorem q_resL {hs : Hp} {env : Env} {a : Act} {N : Nat} (hT : TabOK G.P T) (hf : Fits ds N env a) : ∀ (l : List ResultVar) (K : List Value → Prop), ressK G T env hs K l →
    qvc G (l.mapM (resOf a.tmps)) hs K
  | [], K, h => by simp only [List.mapM_nil]; exact h
  | r :: l, K, h => by
    simp only [List.mapM_cons]
    unfold ressK at h
    have hm : ∀ (r : ResultVar) (K1 K2 : Value → Prop), (∀ v, K1 v → K2 v) → resK G T env hs K1 r → resK G T env hs K2 r := by
      intro r K1 K2 hk h
      cases r with
      | tmp t =>
        obtain ⟨v, hv, h⟩ := evK_some (show evK env (.tmp t) K1 from h)
        show evK env (.tmp t) K2
        unfold evK
        rw [hv]
        exact hk _ h
      | cell t ty =>
        obtain ⟨v, hv, h⟩ := evK_some (show evK env (.tmp t) _ from h)
        show evK env (.tmp t) fun
          | .pointer (some a) => loadK G T hs ty a K2
          | _ => False
        unfold evK
        rw [hv]
        dsimp only at h ⊢
        split at h
        · unfold loadK at h ⊢
          split at h
          · split at h
            · obtain ⟨x, h1, h2⟩ := h.out; exact Pick.mk x h1 (hk _ h2)
            · obtain ⟨x, h1, h2⟩ := h.out; exact Pick.mk x h1 (hk _ h2)
          · exact h.elim
        · exact h.elim
    refine qvc_bind _ _ _ _ (q_resK hT hf r (hm r _ _ (fun v hv => ?_) h))
    exact qvc_bind _ _ _ _ (q_resL hT hf l _ hv)
theorem retK_out {hs : Hp} {env : Env} {a : Act} {N : Nat} {fn : Func} {w : World} {K : Value → Hp → Prop} (hT : TabOK G.P T) (hf : Fits ds N env a) (hw : St G hs w) (h : retK G T fn.results.toList K env hs) :
    ∃ v, (results fn a.tmps).run G.P w = .ok v w ∧ K v hs := by
  have h1 := q_resL hT hf fn.results.toList _ h
  have h2 : qvc G (results fn a.tmps) hs fun v => K v hs := by
    have e : results fn a.tmps = (do let vs ← fn.results.mapM (resOf a.tmps); pure (if h : vs.size = 1 then vs[0] else .tuple vs)) := by
      unfold results
      congr 1
    rw [e, Array.mapM_eq_mapM_toList]
    refine qvc_bind _ _ _ _ ?_
    rw [map_eq_pure_bind]
    refine qvc_bind _ _ _ _ ?_
    have hq : ∀ {α : Type} (m : Sem α) (K1 K2 : α → Prop), (∀ a, K1 a → K2 a) → qvc G m hs K1 → qvc G m hs K2 := by
      intro α m
      induction m with
      | pure a => intro K K' hk h; exact hk _ h
      | load m a k ih => intro K K' hk h; obtain ⟨v, hv, h⟩ := h; exact ⟨v, hv, ih v K K' hk h⟩
      | shape r k ih => intro K K' hk h; obtain ⟨e, he, hr, h⟩ := h; exact ⟨e, he, hr, ih _ K K' hk h⟩
      | program k ih => intro K K' hk h; exact ih _ K K' hk h
      | mark m k ih => intro K K' hk h; exact ih K K' hk h
      | _ => intro K K' hk h; exact h.elim
    refine hq _ _ _ (fun vs hvs => ?_) h1
    show qvc G (pure (if h : (vs.toArray).size = 1 then vs.toArray[0] else Value.tuple vs.toArray) : Sem Value) hs fun v => K v hs
    match vs, hvs with
    | [], hvs => exact hvs
    | [v], hvs => exact hvs
    | _ :: _ :: _, hvs => exact hvs
  obtain ⟨v, hr, hk⟩ := qvc_sound _ _ _ h2
  exact ⟨v, hr w hw, hk⟩

theorem calls_of_vc {P : Program} {f : Nat} {fn : Func} {c : Code} {args : List Value} {hs : Hp} {K : Value → Hp → Prop} (hP : G.P = P) (hT : TabOK P T) (hfn : P.funcs[f]? = some fn) (hb : fn.body = some c)
    (hn : args.length ≤ fn.ntmps) (hw : St G hs G.w0)
    (h : codeVC G T fn.ntmps c (mkEnv args 0) hs (retK G T fn.results.toList K) (fun _ _ _ => False) (retK G T fn.results.toList K)) :
    Calls P f args.toArray G.w0 (Post G K) := by
  subst hP
  refine calls_of_wp hfn hb ((wpIn_wide (n := 0)).1 ?_)
  rw [← FR_none]
  refine codeVC_sound (ds := []) hT c _ _ _ _ _ _ _ _ h ⟨fun env hs' a w' hk hf hw' => ?_, fun id env hs' a w' hk _ _ => hk.elim, fun env hs' a w' hk hf hw' => ?_⟩ ?_ hw
  · obtain ⟨v, h1, h2⟩ := retK_out hT hf hw' hk
    exact ⟨hf.defers, v, h1, v, hs', rfl, h2, hw'⟩
  · obtain ⟨v, h1, h2⟩ := retK_out hT hf hw' hk
    exact ⟨hf.defers, v, h1, v, hs', rfl, h2, hw'⟩
  · refine ⟨by simp; omega, rfl, fun i v hi => ?_⟩
    obtain ⟨_, h2⟩ := mkEnv_lk args 0 i v hi
    show (args.toArray ++ Array.replicate (fn.ntmps - args.toArray.size) undef)[i]? = some v
    have hlt : i < args.length := by
      have := (List.getElem?_eq_some_iff.1 h2).1
      omega
    rw [Array.getElem?_append_left (by simpa using hlt)]
    simpa using h2
theorem st_self (P : Program) (w : World) : St ⟨P, w, []⟩ [] w := ⟨rfl, rfl, rfl, Nat.le_refl _, fun _ _ _ => rfl, (by simp), List.nodup_nil, (by simp)⟩
end
section
set_option linter.unusedVariables false
set_option linter.unusedSimpArgs false
variable {G : Cx} {T : Tab}

structure Done (p : Prop) : Prop where mk ::
  out : p

/-- A call of a function from a world, in which nothing that was there is changed. -/
structure Ret (P : Program) (f : Nat) (args : List Value) (w : World) (R : Value → Hp → Prop) : Prop where wrap ::
  calls : Calls P f args.toArray w (Post ⟨P, w, []⟩ R)

theorem Post.mono {K K' : Value → Hp → Prop} (hk : ∀ v hs, K v hs → K' v hs) : ∀ e w, Post G K e w → Post G K' e w := fun e w ⟨v, hs, he, h, hw⟩ => ⟨v, hs, he, hk _ _ h, hw⟩
theorem calls_vc {P : Program} {f : Nat} {fn : Func} {c : Code} {args : List Value} {hs : Hp} {K : Value → Hp → Prop} (hP : G.P = P) (hT : TabOK P T) (hfn : P.funcs[f]? = some fn) (hb : fn.body = some c)
    (hn : Nat.ble args.length fn.ntmps = true) (hw : St G hs G.w0)
    (h : codeVC G T fn.ntmps c (mkEnv args 0) hs (retK G T fn.results.toList fun v hs => Done (K v hs)) (fun _ _ _ => False) (retK G T fn.results.toList fun v hs => Done (K v hs))) :
    Calls P f args.toArray G.w0 (Post G K) :=
  (calls_of_vc hP hT hfn hb (Nat.le_of_ble_eq_true hn) hw h).mono (Post.mono fun v hs h => h.out)
theorem ret_vc {P : Program} {f : Nat} {fn : Func} {c : Code} {args : List Value} {w : World} {K : Value → Hp → Prop} (hT : TabOK P T) (hfn : P.funcs[f]? = some fn) (hb : fn.body = some c)
    (hn : Nat.ble args.length fn.ntmps = true)
    (h : codeVC ⟨P, w, []⟩ T fn.ntmps c (mkEnv args 0) [] (retK ⟨P, w, []⟩ T fn.results.toList fun v hs => Done (K v hs)) (fun _ _ _ => False) (retK ⟨P, w, []⟩ T fn.results.toList fun v hs => Done (K v hs))) :
    Ret P f args w K := ⟨calls_vc (G := ⟨P, w, []⟩) rfl hT hfn hb hn (st_self _ _) h⟩

theorem St.trans {hs hs2 : Hp} {w w' : World} (h : St G hs w) (h2 : St ⟨G.P, w, []⟩ hs2 w') : St G (hs2 ++ hs) w' := by
  have hold : ∀ b, b < w.heap.size → w'.heap[b]? = w.heap[b]? := fun b hb => h2.old b hb (by simp)
  have h2n : ∀ e ∈ hs2, w.heap.size ≤ e.b := fun e he => (h2.new e he).resolve_right (by simp)
  refine ⟨h2.os.trans h.os, h2.tape.trans h.tape, h2.output.trans h.output, Nat.le_trans h.size h2.size, ?_, ?_, ?_, ?_⟩
  · intro b hb hf
    rw [hold b (Nat.lt_of_lt_of_le hb h.size)]
    exact h.old b hb hf
  · intro e he
    rcases List.mem_append.1 he with he | he
    · exact h2.own e he
    · rw [hold _ (h.lt he)]
      exact h.own e he
  · rw [List.map_append, List.nodup_append]
    refine ⟨h2.nodup, h.nodup, ?_⟩
    intro x hx y hy hxy
    obtain ⟨e, he, rfl⟩ := List.mem_map.1 hx
    obtain ⟨e', he', rfl⟩ := List.mem_map.1 hy
    have := h2n e he
    have := h.lt he'
    omega
  · intro e he
    rcases List.mem_append.1 he with he | he
    · exact .inl (Nat.le_trans h.size (h2n e he))
    · exact h.new e he

theorem CallVC.of {hs : Hp} {f : Nat} {args : List Value} {K R : Value → Hp → Prop} (hc : ∀ w, St G hs w → Ret G.P f args w R) (hk : ∀ v hs2, R v hs2 → K v (hs2 ++ hs)) : CallVC G hs f args K := by
  rw [CallVC_eq]
  refine ⟨fun v hs' => ∃ hs2, hs' = hs2 ++ hs ∧ R v hs2, fun w hw => (hc w hw).calls.mono ?_, ?_⟩
  · rintro e w' ⟨v, hs2, rfl, hr, hst⟩
    exact ⟨v, hs2 ++ hs, rfl, ⟨hs2, rfl, hr⟩, hw.trans hst⟩
  · rintro v hs' ⟨hs2, rfl, hr⟩
    exact hk v hs2 hr
/-- A callee that hands back a value and leaves nothing to be known. -/
theorem CallVC.val {hs : Hp} {f : Nat} {args : List Value} {K : Value → Hp → Prop} {v : Value} (hc : ∀ w, St G hs w → Ret G.P f args w fun u hs2 => u = v ∧ hs2 = []) (hk : K v hs) : CallVC G hs f args K :=
  CallVC.of hc fun u hs2 ⟨h1, h2⟩ => by subst h1 h2; exact hk
theorem QuietVC.val {hs : Hp} {f : Nat} {args : List Value} {K : Value → Prop} {v : Value} (hc : ∀ w, St G hs w → Ret G.P f args w fun u hs2 => u = v ∧ hs2 = []) (hk : K v) : QuietVC G hs f args K := by
  rw [QuietVC_eq]
  refine ⟨v, fun hs1 w hw1 hw => (hc w (hw w hw1)).calls.mono ?_, hk⟩
  rintro e w' ⟨u, hs2, rfl, ⟨rfl, rfl⟩, hst⟩
  exact ⟨rfl, hw1.trans hst⟩

/-- A call that hands back one value, and of which nothing else is to be known. -/
abbrev Val (P : Program) (f : Nat) (args : List Value) (w : World) (v : Value) : Prop := Ret P f args w fun u hs2 => u = v ∧ hs2 = []
theorem val_vc {P : Program} {f : Nat} {fn : Func} {c : Code} {args : List Value} {w : World} {v : Value} (hT : TabOK P T) (hfn : P.funcs[f]? = some fn) (hb : fn.body = some c)
    (hn : Nat.ble args.length fn.ntmps = true)
    (h : codeVC ⟨P, w, []⟩ T fn.ntmps c (mkEnv args 0) [] (retK ⟨P, w, []⟩ T fn.results.toList fun u _ => Done (u = v)) (fun _ _ _ => False) (retK ⟨P, w, []⟩ T fn.results.toList fun u _ => Done (u = v))) :
    Val P f args w v := by
  have := ret_vc (K := fun u _ => u = v) hT hfn hb hn h
  refine ⟨this.calls.mono ?_⟩
  rintro e w' ⟨u, hs, he, hu, hst⟩
  exact ⟨u, [], he, ⟨hu, rfl⟩, hst.sub (List.nil_sublist _)⟩
theorem CallVC.ite {hs : Hp} {f : Nat} {args : List Value} {K : Value → Hp → Prop} {p : Prop} [Decidable p] {a b : Value} (hc : ∀ w, St G hs w → Val G.P f args w (if p then a else b)) (h1 : p → K a hs) (h0 : ¬ p → K b hs) : CallVC G hs f args K := by
  refine CallVC.val hc ?_
  by_cases hp : p
  · rw [if_pos hp]; exact h1 hp
  · rw [if_neg hp]; exact h0 hp
theorem QuietVC.ite {hs : Hp} {f : Nat} {args : List Value} {K : Value → Prop} {p : Prop} [Decidable p] {a b : Value} (hc : ∀ w, St G hs w → Val G.P f args w (if p then a else b)) (h1 : p → K a) (h0 : ¬ p → K b) : QuietVC G hs f args K := by
  refine QuietVC.val hc ?_
  by_cases hp : p
  · rw [if_pos hp]; exact h1 hp
  · rw [if_neg hp]; exact h0 hp

/-! ### Numbers that fit -/
theorem fit_i64 {x : Int} (h1 : -9223372036854775808 ≤ x) (h2 : x ≤ 9223372036854775807) : x = IntKind.i64.wrap x := (wrap_i64 h1 h2).symm
theorem fit_u64 {x : Int} (h1 : 0 ≤ x) (h2 : x ≤ 18446744073709551615) : x = IntKind.u64.wrap x := by
  simp [IntKind.wrap, IntKind.signed, IntKind.bits]; omega
theorem fit_u32 {x : Int} (h1 : 0 ≤ x) (h2 : x ≤ 4294967295) : x = IntKind.u32.wrap x := by
  simp [IntKind.wrap, IntKind.signed, IntKind.bits]; omega
theorem fit_u8 {x : Int} (h1 : 0 ≤ x) (h2 : x ≤ 255) : x = IntKind.u8.wrap x := by
  simp [IntKind.wrap, IntKind.signed, IntKind.bits]; omega
theorem fit_u16 {x : Int} (h1 : 0 ≤ x) (h2 : x ≤ 65535) : x = IntKind.u16.wrap x := by
  simp [IntKind.wrap, IntKind.signed, IntKind.bits]; omega
theorem quo_i64 {m n : Int} (h0 : 0 ≤ m) (h1 : m ≤ 9223372036854775807) (hn : 0 < n) : m / n = IntKind.i64.wrap (m.tdiv n) := by
  rw [Int.tdiv_eq_ediv_of_nonneg h0]
  have h2 : 0 ≤ m / n := Int.ediv_nonneg h0 (Int.le_of_lt hn)
  have h3 : m / n ≤ m := Int.ediv_le_self n h0
  exact (wrap_i64 (by omega) (by omega)).symm
theorem quo_u8 {m n : Int} (h0 : 0 ≤ m) (h1 : m ≤ 255) (hn : 0 < n) : m / n = IntKind.u8.wrap (m.tdiv n) := by
  rw [Int.tdiv_eq_ediv_of_nonneg h0]
  have h2 : 0 ≤ m / n := Int.ediv_nonneg h0 (Int.le_of_lt hn)
  have h3 : m / n ≤ m := Int.ediv_le_self n h0
  exact fit_u8 (by omega) (by omega)
theorem rem_pos {m n : Int} (h0 : 0 ≤ m) : m % n = m.tmod n := (Int.tmod_eq_emod_of_nonneg h0).symm

/-! ### Loops -/
theorem Sub.nil {e : Env} : Sub [] e := fun i v h => by cases h
theorem Sub.cons {e r : Env} {i : Nat} {v : Value} (h : lk e i = some v) (hr : Sub r e) : Sub ((i, v) :: r) e := by
  intro j u hj
  simp only [lk] at hj
  split at hj
  · rename_i hb
    obtain rfl := Nat.eq_of_beq_eq_true hb
    rw [h]; exact hj
  · exact hr j u hj
theorem Weak.mk {I : Env → Hp → Prop} {env env' : Env} {hs hs' : Hp} (h1 : Sub env' env) (h2 : hs'.Sublist hs) (h : I env' hs') : Weak G I env hs := ⟨env', hs', h1, fun w hw => hw.sub h2, h⟩
/-- Once more round, by a lesser number. -/
theorem again {I : Nat → Env → Hp → Prop} {env env' : Env} {hs hs' : Hp} {n : Nat} (m : Nat) (hm : m < n) (h1 : Sub env' env) (h2 : hs'.Sublist hs) (h : I m env' hs') : ∃ m, m < n ∧ Weak G (I m) env hs := ⟨m, hm, Weak.mk h1 h2 h⟩
end
section
set_option linter.unusedVariables false
set_option linter.unusedSimpArgs false
theorem ofw_u8 (a : BitVec 8) : BitVec.ofInt IntKind.u8.bits (a.toNat : Int) = a := by
  show BitVec.ofInt 8 (a.toNat : Int) = a
  rw [BitVec.ofInt_natCast, BitVec.ofNat_toNat, BitVec.setWidth_eq]
theorem wrapw_u8 (a : BitVec 8) : IntKind.u8.wrap (a.toNat : Int) = a.toNat := (fit_u8 (by omega) (by have := a.isLt; omega)).symm
theorem and_u8 (a b : BitVec 8) : ((a &&& b).toNat : Int) = bitsOf .and .u8 a.toNat b.toNat := by simp only [bitsOf, ofw_u8]; exact (wrapw_u8 _).symm
theorem or_u8 (a b : BitVec 8) : ((a ||| b).toNat : Int) = bitsOf .or .u8 a.toNat b.toNat := by simp only [bitsOf, ofw_u8]; exact (wrapw_u8 _).symm
theorem xor_u8 (a b : BitVec 8) : ((a ^^^ b).toNat : Int) = bitsOf .xor .u8 a.toNat b.toNat := by simp only [bitsOf, ofw_u8]; exact (wrapw_u8 _).symm
theorem add_u8 (a b : BitVec 8) : ((a + b).toNat : Int) = IntKind.u8.wrap (a.toNat + b.toNat) := by
  simp only [BitVec.toNat_add, IntKind.wrap, IntKind.signed, IntKind.bits]
  simp
theorem sub_u8 (a b : BitVec 8) : ((a - b).toNat : Int) = IntKind.u8.wrap (a.toNat - b.toNat) := by
  have ha := a.isLt
  have hb := b.isLt
  simp only [BitVec.toNat_sub, IntKind.wrap, IntKind.signed, IntKind.bits]
  simp
  omega
theorem shr_u8 (a : BitVec 8) (c : Int) (h0 : 0 ≤ c) (h1 : c ≤ 8) : ((a >>> c.toNat).toNat : Int) = shrOf .u8 a.toNat c := by
  obtain ⟨m, rfl⟩ := Int.eq_ofNat_of_zero_le h0
  have hm : m ≤ 8 := by omega
  unfold shrOf
  rw [Int.toNat_natCast, show min m IntKind.u8.bits = m from Nat.min_eq_left hm]
  rw [BitVec.toNat_ushiftRight, Nat.shiftRight_eq_div_pow, Int.fdiv_eq_ediv_of_nonneg _ (Int.le_of_lt (Int.pow_pos (by decide)))]
  simp
theorem shl_u8 (a : BitVec 8) (c : Int) (h0 : 0 ≤ c) (h1 : c ≤ 8) : ((a <<< c.toNat).toNat : Int) = shlOf .u8 a.toNat c := by
  obtain ⟨m, rfl⟩ := Int.eq_ofNat_of_zero_le h0
  have hm : m ≤ 8 := by omega
  unfold shlOf
  rw [Int.toNat_natCast, show min m IntKind.u8.bits = m from Nat.min_eq_left hm]
  rw [BitVec.toNat_shiftLeft, Nat.shiftLeft_eq]
  simp only [IntKind.wrap, IntKind.signed, IntKind.bits]
  simp
theorem not_u8 (a : BitVec 8) : ((~~~a).toNat : Int) = bitsOf .xor .u8 (match IntKind.u8.signed with | true => -1 | false => IntKind.u8.max) a.toNat := by
  show ((~~~a).toNat : Int) = IntKind.u8.wrap ((BitVec.ofInt 8 255 ^^^ BitVec.ofInt 8 (a.toNat : Int)).toNat)
  rw [show BitVec.ofInt 8 255 = BitVec.allOnes 8 from by decide, show BitVec.ofInt 8 (a.toNat : Int) = a from ofw_u8 a, BitVec.allOnes_xor, wrapw_u8]

theorem ofw_u16 (a : BitVec 16) : BitVec.ofInt IntKind.u16.bits (a.toNat : Int) = a := by
  show BitVec.ofInt 16 (a.toNat : Int) = a
  rw [BitVec.ofInt_natCast, BitVec.ofNat_toNat, BitVec.setWidth_eq]
theorem wrapw_u16 (a : BitVec 16) : IntKind.u16.wrap (a.toNat : Int) = a.toNat := (fit_u16 (by omega) (by have := a.isLt; omega)).symm
theorem and_u16 (a b : BitVec 16) : ((a &&& b).toNat : Int) = bitsOf .and .u16 a.toNat b.toNat := by simp only [bitsOf, ofw_u16]; exact (wrapw_u16 _).symm
theorem or_u16 (a b : BitVec 16) : ((a ||| b).toNat : Int) = bitsOf .or .u16 a.toNat b.toNat := by simp only [bitsOf, ofw_u16]; exact (wrapw_u16 _).symm
theorem xor_u16 (a b : BitVec 16) : ((a ^^^ b).toNat : Int) = bitsOf .xor .u16 a.toNat b.toNat := by simp only [bitsOf, ofw_u16]; exact (wrapw_u16 _).symm
theorem add_u16 (a b : BitVec 16) : ((a + b).toNat : Int) = IntKind.u16.wrap (a.toNat + b.toNat) := by
  simp only [BitVec.toNat_add, IntKind.wrap, IntKind.signed, IntKind.bits]
  simp
theorem sub_u16 (a b : BitVec 16) : ((a - b).toNat : Int) = IntKind.u16.wrap (a.toNat - b.toNat) := by
  have ha := a.isLt
  have hb := b.isLt
  simp only [BitVec.toNat_sub, IntKind.wrap, IntKind.signed, IntKind.bits]
  simp
  omega
theorem shr_u16 (a : BitVec 16) (c : Int) (h0 : 0 ≤ c) (h1 : c ≤ 16) : ((a >>> c.toNat).toNat : Int) = shrOf .u16 a.toNat c := by
  obtain ⟨m, rfl⟩ := Int.eq_ofNat_of_zero_le h0
  have hm : m ≤ 16 := by omega
  unfold shrOf
  rw [Int.toNat_natCast, show min m IntKind.u16.bits = m from Nat.min_eq_left hm]
  rw [BitVec.toNat_ushiftRight, Nat.shiftRight_eq_div_pow, Int.fdiv_eq_ediv_of_nonneg _ (Int.le_of_lt (Int.pow_pos (by decide)))]
  simp
theorem shl_u16 (a : BitVec 16) (c : Int) (h0 : 0 ≤ c) (h1 : c ≤ 16) : ((a <<< c.toNat).toNat : Int) = shlOf .u16 a.toNat c := by
  obtain ⟨m, rfl⟩ := Int.eq_ofNat_of_zero_le h0
  have hm : m ≤ 16 := by omega
  unfold shlOf
  rw [Int.toNat_natCast, show min m IntKind.u16.bits = m from Nat.min_eq_left hm]
  rw [BitVec.toNat_shiftLeft, Nat.shiftLeft_eq]
  simp only [IntKind.wrap, IntKind.signed, IntKind.bits]
  simp
theorem not_u16 (a : BitVec 16) : ((~~~a).toNat : Int) = bitsOf .xor .u16 (match IntKind.u16.signed with | true => -1 | false => IntKind.u16.max) a.toNat := by
  show ((~~~a).toNat : Int) = IntKind.u16.wrap ((BitVec.ofInt 16 65535 ^^^ BitVec.ofInt 16 (a.toNat : Int)).toNat)
  rw [show BitVec.ofInt 16 65535 = BitVec.allOnes 16 from by decide, show BitVec.ofInt 16 (a.toNat : Int) = a from ofw_u16 a, BitVec.allOnes_xor, wrapw_u16]

theorem ofw_u32 (a : BitVec 32) : BitVec.ofInt IntKind.u32.bits (a.toNat : Int) = a := by
  show BitVec.ofInt 32 (a.toNat : Int) = a
  rw [BitVec.ofInt_natCast, BitVec.ofNat_toNat, BitVec.setWidth_eq]
theorem wrapw_u32 (a : BitVec 32) : IntKind.u32.wrap (a.toNat : Int) = a.toNat := (fit_u32 (by omega) (by have := a.isLt; omega)).symm
theorem and_u32 (a b : BitVec 32) : ((a &&& b).toNat : Int) = bitsOf .and .u32 a.toNat b.toNat := by simp only [bitsOf, ofw_u32]; exact (wrapw_u32 _).symm
theorem or_u32 (a b : BitVec 32) : ((a ||| b).toNat : Int) = bitsOf .or .u32 a.toNat b.toNat := by simp only [bitsOf, ofw_u32]; exact (wrapw_u32 _).symm
theorem xor_u32 (a b : BitVec 32) : ((a ^^^ b).toNat : Int) = bitsOf .xor .u32 a.toNat b.toNat := by simp only [bitsOf, ofw_u32]; exact (wrapw_u32 _).symm
theorem add_u32 (a b : BitVec 32) : ((a + b).toNat : Int) = IntKind.u32.wrap (a.toNat + b.toNat) := by
  simp only [BitVec.toNat_add, IntKind.wrap, IntKind.signed, IntKind.bits]
  simp
theorem sub_u32 (a b : BitVec 32) : ((a - b).toNat : Int) = IntKind.u32.wrap (a.toNat - b.toNat) := by
  have ha := a.isLt
  have hb := b.isLt
  simp only [BitVec.toNat_sub, IntKind.wrap, IntKind.signed, IntKind.bits]
  simp
  omega
theorem shr_u32 (a : BitVec 32) (c : Int) (h0 : 0 ≤ c) (h1 : c ≤ 32) : ((a >>> c.toNat).toNat : Int) = shrOf .u32 a.toNat c := by
  obtain ⟨m, rfl⟩ := Int.eq_ofNat_of_zero_le h0
  have hm : m ≤ 32 := by omega
  unfold shrOf
  rw [Int.toNat_natCast, show min m IntKind.u32.bits = m from Nat.min_eq_left hm]
  rw [BitVec.toNat_ushiftRight, Nat.shiftRight_eq_div_pow, Int.fdiv_eq_ediv_of_nonneg _ (Int.le_of_lt (Int.pow_pos (by decide)))]
  simp
theorem shl_u32 (a : BitVec 32) (c : Int) (h0 : 0 ≤ c) (h1 : c ≤ 32) : ((a <<< c.toNat).toNat : Int) = shlOf .u32 a.toNat c := by
  obtain ⟨m, rfl⟩ := Int.eq_ofNat_of_zero_le h0
  have hm : m ≤ 32 := by omega
  unfold shlOf
  rw [Int.toNat_natCast, show min m IntKind.u32.bits = m from Nat.min_eq_left hm]
  rw [BitVec.toNat_shiftLeft, Nat.shiftLeft_eq]
  simp only [IntKind.wrap, IntKind.signed, IntKind.bits]
  simp
theorem not_u32 (a : BitVec 32) : ((~~~a).toNat : Int) = bitsOf .xor .u32 (match IntKind.u32.signed with | true => -1 | false => IntKind.u32.max) a.toNat := by
  show ((~~~a).toNat : Int) = IntKind.u32.wrap ((BitVec.ofInt 32 4294967295 ^^^ BitVec.ofInt 32 (a.toNat : Int)).toNat)
  rw [show BitVec.ofInt 32 4294967295 = BitVec.allOnes 32 from by decide, show BitVec.ofInt 32 (a.toNat : Int) = a from ofw_u32 a, BitVec.allOnes_xor, wrapw_u32]

theorem ofw_u64 (a : BitVec 64) : BitVec.ofInt IntKind.u64.bits (a.toNat : Int) = a := by
  show BitVec.ofInt 64 (a.toNat : Int) = a
  rw [BitVec.ofInt_natCast, BitVec.ofNat_toNat, BitVec.setWidth_eq]
theorem wrapw_u64 (a : BitVec 64) : IntKind.u64.wrap (a.toNat : Int) = a.toNat := (fit_u64 (by omega) (by have := a.isLt; omega)).symm
theorem and_u64 (a b : BitVec 64) : ((a &&& b).toNat : Int) = bitsOf .and .u64 a.toNat b.toNat := by simp only [bitsOf, ofw_u64]; exact (wrapw_u64 _).symm
theorem or_u64 (a b : BitVec 64) : ((a ||| b).toNat : Int) = bitsOf .or .u64 a.toNat b.toNat := by simp only [bitsOf, ofw_u64]; exact (wrapw_u64 _).symm
theorem xor_u64 (a b : BitVec 64) : ((a ^^^ b).toNat : Int) = bitsOf .xor .u64 a.toNat b.toNat := by simp only [bitsOf, ofw_u64]; exact (wrapw_u64 _).symm
theorem add_u64 (a b : BitVec 64) : ((a + b).toNat : Int) = IntKind.u64.wrap (a.toNat + b.toNat) := by
  simp only [BitVec.toNat_add, IntKind.wrap, IntKind.signed, IntKind.bits]
  simp
theorem sub_u64 (a b : BitVec 64) : ((a - b).toNat : Int) = IntKind.u64.wrap (a.toNat - b.toNat) := by
  have ha := a.isLt
  have hb := b.isLt
  simp only [BitVec.toNat_sub, IntKind.wrap, IntKind.signed, IntKind.bits]
  simp
  omega
theorem shr_u64 (a : BitVec 64) (c : Int) (h0 : 0 ≤ c) (h1 : c ≤ 64) : ((a >>> c.toNat).toNat : Int) = shrOf .u64 a.toNat c := by
  obtain ⟨m, rfl⟩ := Int.eq_ofNat_of_zero_le h0
  have hm : m ≤ 64 := by omega
  unfold shrOf
  rw [Int.toNat_natCast, show min m IntKind.u64.bits = m from Nat.min_eq_left hm]
  rw [BitVec.toNat_ushiftRight, Nat.shiftRight_eq_div_pow, Int.fdiv_eq_ediv_of_nonneg _ (Int.le_of_lt (Int.pow_pos (by decide)))]
  simp
theorem shl_u64 (a : BitVec 64) (c : Int) (h0 : 0 ≤ c) (h1 : c ≤ 64) : ((a <<< c.toNat).toNat : Int) = shlOf .u64 a.toNat c := by
  obtain ⟨m, rfl⟩ := Int.eq_ofNat_of_zero_le h0
  have hm : m ≤ 64 := by omega
  unfold shlOf
  rw [Int.toNat_natCast, show min m IntKind.u64.bits = m from Nat.min_eq_left hm]
  rw [BitVec.toNat_shiftLeft, Nat.shiftLeft_eq]
  simp only [IntKind.wrap, IntKind.signed, IntKind.bits]
  simp
theorem not_u64 (a : BitVec 64) : ((~~~a).toNat : Int) = bitsOf .xor .u64 (match IntKind.u64.signed with | true => -1 | false => IntKind.u64.max) a.toNat := by
  show ((~~~a).toNat : Int) = IntKind.u64.wrap ((BitVec.ofInt 64 18446744073709551615 ^^^ BitVec.ofInt 64 (a.toNat : Int)).toNat)
  rw [show BitVec.ofInt 64 18446744073709551615 = BitVec.allOnes 64 from by decide, show BitVec.ofInt 64 (a.toNat : Int) = a from ofw_u64 a, BitVec.allOnes_xor, wrapw_u64]
end
section
set_option linter.unusedVariables false
set_option linter.unusedSimpArgs false
open Go
variable {G : Cx} {hs : Hp}

theorem pick_whole {b n : Nat} {cs : List Value} {t : TypeId} {fr : Nat × Nat} (hm : (⟨b, cs, t, fr⟩ : Ent) ∈ hs) (hl : cs.length = n) : cs.length = n ∧ G.cellsAre hs ⟨b, 0, none⟩ cs := ⟨hl, cellsAre_whole hm⟩
theorem pick_part {b n off : Nat} {cs : List Value} {t : TypeId} {fr : Nat × Nat} (hm : (⟨b, cs, t, fr⟩ : Ent) ∈ hs) (hl : ((cs.drop off).take n).length = n) : ((cs.drop off).take n).length = n ∧ G.cellsAre hs ⟨b, off, none⟩ ((cs.drop off).take n) :=
  ⟨hl, cellsAre_at hm fun i v h => by
    rw [List.getElem?_take] at h
    split at h
    · rw [List.getElem?_drop] at h; exact h
    · cases h⟩
theorem store_at {b off : Nat} {cs vs : List Value} {t : TypeId} {fr : Nat × Nat} {hs' : Hp} {K : Hp → Prop} (hu : Upd ⟨b, cs, t, fr⟩ ⟨b, layL vs cs off, t, fr⟩ hs hs') (hfr : Soft fr cs.length) (h1 : vs.all one = true)
    (hl : Nat.ble (off + vs.length) cs.length = true) (h : K hs') : StoreVC G hs ⟨b, off, none⟩ vs K := StoreVC.at_ hu hfr h1 (Nat.le_of_ble_eq_true hl) h
/-! What a walk asks again and again, tried in turn. -/
theorem Need.au {p k : Prop} (hk : k) (h : p := by first | omega | decide +kernel | rfl | exact ⟨rfl, Nat.le_of_ble_eq_true rfl⟩ | exact List.Sublist.cons _ (List.Sublist.refl _) | exact List.Sublist.refl _) : Need p k := ⟨h, hk⟩
theorem Pick.au {α : Type} {p k : α → Prop} {x : α} (hk : k x)
    (h : p x := by first | exact fit_i64 (by omega) (by omega) | exact fit_u64 (by omega) (by omega) | exact fit_u32 (by omega) (by omega) | exact fit_u8 (by omega) (by omega) | exact quo_i64 (by omega) (by omega) (by omega) | exact rem_pos (by omega) | exact cellIs_at (by repeat (first | exact List.Mem.head _ | refine List.Mem.tail _ ?_)) rfl | exact cellIs_old (by assumption) (by simp) | exact pick_whole (by repeat (first | exact List.Mem.head _ | refine List.Mem.tail _ ?_)) (by rfl) | exact pick_part (by repeat (first | exact List.Mem.head _ | refine List.Mem.tail _ ?_)) (by rfl)) : Pick p k := Pick.mk x h hk
theorem store_au {b off : Nat} {cs vs : List Value} {t : TypeId} {fr : Nat × Nat} {hs' : Hp} {K : Hp → Prop} (h : K hs') (hu : Upd ⟨b, cs, t, fr⟩ ⟨b, layL vs cs off, t, fr⟩ hs hs' := by repeat (first | exact Upd.head _ | apply Upd.tail)) (hfr : Soft fr cs.length := by exact soft0) (h1 : vs.all one = true := by rfl)
    (hl : Nat.ble (off + vs.length) cs.length = true := by rfl) : StoreVC G hs ⟨b, off, none⟩ vs K := store_at hu hfr h1 hl h
end
end Go.Proofs.YtnlheljpagpiiaaGreat
