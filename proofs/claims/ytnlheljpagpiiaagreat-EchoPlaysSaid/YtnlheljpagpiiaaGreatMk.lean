/-
  Plans of open-order regions in which calls with effects stand. A row of bytes of the call's own, or none; what a call makes of blocks handed to it. A region whose order is open, once more: what was reckoned ahead hangs only on the blocks that lay there then.
-/
import Derived.Test.YtnlheljpagpiiaaGreatTab
import Derived.Test.YtnlheljpagpiiaaGreatMe
import Derived.Test.YtnlheljpagpiiaaGreatMd
namespace Go.Proofs.YtnlheljpagpiiaaGreat
section

def pm23_11 : Plan := .q 0 (.q 1 (.q 2 (.q 3 (.q 4 (.q 5 (.q 6 (.q 7 (.q 8 (.q 9 (.one 10 false (.one 11 true (.q 12 (.q 13 (.q 14 (.q 15 (.done))))))))))))))))
def pm24_8 : Plan := .q 0 (.q 1 (.q 2 (.q 3 (.one 4 false (.q 5 (.q 6 (.q 7 (.done))))))))
def pm31_1 : Plan := .q 0 (.one 1 false (.one 2 true (.q 3 (.q 4 (.q 5 (.q 6 (.q 7 (.done))))))))
def pm35_8 : Plan := .q 0 (.q 1 (.q 2 (.q 3 (.q 4 (.q 5 (.q 6 (.q 7 (.q 8 (.one 9 true (.q 10 (.q 11 (.q 12 (.q 13 (.q 14 (.done)))))))))))))))
def pm36_6 : Plan := .q 0 (.q 1 (.q 2 (.q 3 (.q 4 (.q 5 (.q 6 (.q 7 (.q 8 (.q 9 (.one 10 true (.q 11 (.q 12 (.q 13 (.q 14 (.q 15 (.done))))))))))))))))
def pm37_3 : Plan := .q 0 (.q 1 (.q 2 (.q 3 (.q 4 (.q 5 (.q 6 (.q 7 (.q 8 (.q 9 (.one 10 true (.q 11 (.q 12 (.q 13 (.q 14 (.q 15 (.done))))))))))))))))
def pm37_4 : Plan := .q 0 (.q 1 (.q 2 (.q 3 (.q 4 (.q 5 (.q 6 (.q 7 (.q 8 (.q 9 (.q 10 (.q 11 (.q 12 (.q 13 (.q 14 (.one 15 true (.q 16 (.q 17 (.q 18 (.q 19 (.done))))))))))))))))))))
def pm54_12 : Plan := .q 0 (.q 1 (.q 2 (.q 3 (.q 4 (.q 5 (.q 6 (.q 7 (.one 8 true (.done)))))))))
def pm60_1 : Plan := .q 0 (.q 1 (.q 2 (.q 3 (.q 4 (.q 5 (.q 6 (.q 7 (.q 8 (.one 9 true (.q 10 (.q 11 (.q 12 (.q 13 (.q 14 (.done)))))))))))))))
def pm62_1 : Plan := .q 0 (.q 1 (.q 2 (.q 3 (.one 4 false (.one 5 true (.q 6 (.q 7 (.q 8 (.q 9 (.done))))))))))
def pm83_1 : Plan := .q 0 (.q 1 (.q 2 (.q 3 (.q 4 (.q 5 (.q 6 (.q 7 (.q 8 (.q 11 (.q 12 (.one 9 false (.q 10 (.q 13 (.q 14 (.q 15 (.done))))))))))))))))
def pm129_12 : Plan := .q 0 (.q 1 (.q 2 (.q 3 (.q 4 (.q 5 (.q 6 (.one 7 true (.done))))))))
end
section
set_option linter.unusedVariables false
set_option linter.unusedSimpArgs false
open Go
/-- A row of bytes of the call's own, or none. -/
inductive Own : Option Addr → List B8 → Nat → Hp → Prop
  | none : Own none [] 0 []
  | row (b : Nat) (l : List B8) (r : List Value) (fr : Nat × Nat) (hf : Soft fr (l.map b8 ++ r).length) : Own (some ⟨b, 0, Option.none⟩) l (l.map b8 ++ r).length [⟨b, l.map b8 ++ r, 5, fr⟩]
theorem cut_all (A : Option Addr) (k c z : Nat) : Value.slice (if c = 0 then A else Option.map (fun x => x.add (0 * z)) A) (k - 0) (c - 0) = .slice A k c := by
  have e : (if c = 0 then A else Option.map (fun x => x.add (0 * z)) A) = A := by
    split
    · rfl
    · rw [Nat.zero_mul]; cases A <;> rfl
  rw [e]; rfl
theorem at_in {G : Cx} {hs : Hp} {b : Nat} {cs : List Value} {t : TypeId} {fr : Nat × Nat} {w : World} (hm : (⟨b, cs, t, fr⟩ : Ent) ∈ hs) (hw : St G hs w) : At w (some ⟨b, 0, none⟩) cs := fun i v hv => ⟨_, rfl, by rw [add_plain, hw.cell hm, Nat.zero_add]; exact hv⟩
theorem CallVC.mutT {G : Cx} {hs : Hp} {f : Nat} {args : List Value} {K : Value → Hp → Prop} {R : Value → Hp → Prop} (pre rest : Hp) (hp : hs.Perm (pre ++ rest))
    (hc : ∀ w, St G hs w → St ⟨G.P, w, ids pre⟩ pre w → Mut G.P f args w pre fun v hs2 => ∃ L, List.Sublist L hs2 ∧ R v L) (hk : ∀ v L, R v L → K v (L ++ rest)) : CallVC G hs f args K := by
  refine ⟨K, fun w hw => (hc w hw (hw.only hp)).calls.mono ?_, fun _ _ h => h⟩
  rintro e w' ⟨v, hs2, rfl, ⟨L, hL, hr⟩, hst⟩
  exact ⟨v, L ++ rest, rfl, hk v L hr, (hw.transM hp hst).sub (hL.append_right rest)⟩
end
section
set_option linter.unusedVariables false
set_option linter.unusedSimpArgs false
open Go
variable {G : Cx} {T : Tab} {r : Option Nat} {ds : List Deferred}
def wk2 (safe : Bool) (base hs' : Hp) (K : Hp → Prop) : Prop := match safe with
  | true => K []
  | false => Need (base.Sublist hs') (K base)
def planVC2 (G : Cx) (T : Tab) (N : Nat) (all : List Oper) (p : Plan) : Env → Hp → Hp → (Env → Hp → Prop) → Prop :=
  Plan.rec (motive := fun _ => Env → Hp → Hp → (Env → Hp → Prop) → Prop) (fun env base hs K => K env hs)
    (fun j _ ih env base hs K => match onth all j with
      | some o => guardK all env o.guard (qone G T hs env o.op fun v => dstK N o.dst v env fun env' => ih env' hs hs K) (dstK N o.dst undef env fun env' => ih env' hs hs K)
      | none => False)
    (fun i safe _ ih env base hs K => match onth all i with
      | some o => guardK all env o.guard (evc G T hs env o.op fun v hs' => wk2 safe base hs' fun base' => dstK N o.dst v env fun env' => ih env' base' hs' K) (dstK N o.dst undef env fun env' => ih env' base hs K)
      | none => False)
    (fun i _ j _ ih jh env base hs K => Both
      (match onth all i with
      | some o => guardK all env o.guard (evc G T hs env o.op fun v hs' => wk2 false base hs' fun base' => dstK N o.dst v env fun env' => ih env' base' hs' K) (dstK N o.dst undef env fun env' => ih env' base hs K)
      | none => False)
      (match onth all j with
      | some o => guardK all env o.guard (evc G T hs env o.op fun v hs' => wk2 false base hs' fun base' => dstK N o.dst v env fun env' => jh env' base' hs' K) (dstK N o.dst undef env fun env' => jh env' base hs K)
      | none => False)) p
structure Inv2 (G : Cx) (T : Tab) (ds : List Deferred) (N : Nat) (all : List Oper) (K : Env → Hp → Prop) (listed : Array Bool) (a : Act) (w : World) (V : List Bool) (p : Plan) (b : Act) (env : Env) (base hs : Hp) : Prop where
  size : listed.size = all.length
  vsize : V.length = all.length
  asize : a.tmps.size = N
  adef : a.defers = ds
  sub : ∀ i, listed.getD i false = true → In V i
  closedL : Closed all fun i => listed.getD i false = true
  closedV : Closed all (In V)
  fits : Fits ds N env b
  st : St G hs w
  bst : ∀ w, St G hs w → St G base w
  vc : planVC2 G T N all p env base hs K
  pb : planB all p V = true
  pend : ∀ (i : Nat) (o : Oper), all[i]? = some o → In V i → listed.getD i false = false → Pend G all base b i o
  same : ∀ t, (∀ (i : Nat) (o : Oper), all[i]? = some o → In V i → listed.getD i false = false → o.dst ≠ some t) → a.tmps[t]? = b.tmps[t]?
variable {N : Nat} {all : List Oper} {K : Env → Hp → Prop}
/-- The reckoning goes ahead on what only reads. -/
theorem Inv2.ahead (hT : TabOK G.P T) (hW : wellB all = true) {listed : Array Bool} {a : Act} {w : World} : ∀ (p : Plan) (V : List Bool) (b : Act) (env : Env) (base hs : Hp), Inv2 G T ds N all K listed a w V p b env base hs →
    ∃ V' p' b' env' base', Inv2 G T ds N all K listed a w V' p' b' env' base' hs ∧ (∀ j r, p' ≠ .q j r)
  | .done, V, b, env, base, hs, I => ⟨V, .done, b, env, base, I, fun _ _ h => by cases h⟩
  | .one i s r, V, b, env, base, hs, I => ⟨V, .one i s r, b, env, base, I, fun _ _ h => by cases h⟩
  | .two i r j s, V, b, env, base, hs, I => ⟨V, .two i r j s, b, env, base, I, fun _ _ h => by cases h⟩
  | .q j r, V, b, env, base, hs, I => by
    have hpb := I.pb
    unfold planB at hpb
    simp only [Bool.and_eq_true] at hpb
    obtain ⟨o, ho, hon, hj, hjn, hd⟩ := open_spec hpb.1.1.1
    have hanti := anti_spec hpb.1.1.2 ho
    have hvc : guardK all env o.guard (qone G T hs env o.op fun v => dstK N o.dst v env fun env' => planVC2 G T N all r env' hs hs K) (dstK N o.dst undef env fun env' => planVC2 G T N all r env' hs hs K) := by
      have := I.vc
      change (match onth all j with
        | some o => guardK all env o.guard (qone G T hs env o.op fun v => dstK N o.dst v env fun env' => planVC2 G T N all r env' hs hs K) (dstK N o.dst undef env fun env' => planVC2 G T N all r env' hs hs K)
        | none => False) at this
      rwa [hon] at this
    have D := wellB_spec hW ho
    have hnl : listed.getD j false = false := by
      cases h : listed.getD j false with
      | false => rfl
      | true => exact absurd (I.sub j h) hjn
    obtain ⟨v, env1, hq, hf1, hrest, hlt⟩ : ∃ v env1, ((Region.wanted o (yielded all.toArray b.tmps) = true ∧ QRun G hs b.eval o v) ∨ (Region.wanted o (yielded all.toArray b.tmps) = false ∧ v = undef)) ∧
        Fits ds N env1 (b.put o.dst v) ∧ planVC2 G T N all r env1 hs hs K ∧ ∀ d, o.dst = some d → d < N := by
      have hN : ∀ {v : Value} {K' : Env → Prop}, dstK N o.dst v env K' → ∀ d, o.dst = some d → d < N := by
        intro v K' h d hd
        unfold dstK at h
        rw [hd] at h
        dsimp only at h
        split at h
        · rename_i hb; simpa using hb
        · exact h.elim
      rcases guardK_out I.fits hvc with ⟨hw, hrun⟩ | ⟨hw, hskip⟩
      · obtain ⟨v, hv, hd⟩ := qone_qrun hT I.fits.agrees hrun
        obtain ⟨env1, h1, h2⟩ := dstK_out I.fits hd
        exact ⟨v, env1, .inl ⟨hw, hv⟩, h2, h1, hN hd⟩
      · obtain ⟨env1, h1, h2⟩ := dstK_out I.fits hskip
        exact ⟨undef, env1, .inr ⟨hw, rfl⟩, h2, h1, hN hskip⟩
    have hself : ∀ t ∈ o.looksAt all.toArray, (b.put o.dst v).tmps[t]? = b.tmps[t]? := fun t ht => put_other fun hdt => hjn (hd j (hanti j o ho t ht hdt))
    refine Inv2.ahead hT hW r (V.set j true) (b.put o.dst v) env1 hs hs ⟨I.size, by simp [I.vsize], I.asize, I.adef, fun i hi => (in_set hj).2 (.inr (I.sub i hi)), I.closedL, closed_set I.closedV hj ho hd, hf1, I.st, fun w hw => hw, hrest, hpb.2, ?_, ?_⟩
    · intro k x hx hk hun
      rcases (in_set hj).1 hk with rfl | hk
      · rw [ho] at hx
        obtain rfl := Option.some.inj hx
        refine ⟨hanti, v, hs, fun d hdd => ?_, ?_⟩
        · rw [hdd]
          exact Array.getElem?_setIfInBounds_self_of_lt (by rw [I.fits.size]; exact hlt d hdd)
        · rw [same_wanted hself]
          rcases hq with ⟨h1, h2⟩ | h1
          · refine .inl ⟨h1, ⟨fun hs1 w hw h6 => ?_, fun hp w => ?_⟩, .inr fun w hw => hw⟩
            · rw [same_exec D.sel hself]; exact h2.1 hs1 w hw h6
            · rw [same_exec D.sel hself]; exact h2.2 hp w
          · exact .inr h1
      · exact (I.pend k x hx hk hun).put hW I.closedV hx hk ho hjn (fun t ht hdt => hjn (I.closedV k x hk hx j (hanti k x hx t ht hdt))) (.inr fun w hw => I.bst w hw)
    · intro t ht
      have hne : o.dst ≠ some t := ht j o ho ((in_set hj).2 (.inl rfl)) hnl
      rw [put_other hne]
      exact I.same t fun i x hx hi hun => ht i x hx ((in_set hj).2 (.inr hi)) hun
theorem draw_any2 (hT : TabOK G.P T) {Q : Exit → Act → World → Prop} (hW : wellB all = true)
    (hQ : ∀ env hs a w, K env hs → Fits ds N env a → St G hs w → Q .normal a w) :
    ∀ (fuel : Nat) (listed : Array Bool) (a : Act) (w : World) (V : List Bool) (p : Plan) (b : Act) (env : Env) (base hs : Hp), Inv2 G T ds N all K listed a w V p b env base hs → todo all.length listed ≤ fuel →
      wpAnyIn (FR r) 0 G.P .any all.toArray Q fuel listed a w := by
  have hall : ∀ {listed : Array Bool}, listed.size = all.length → Region.ready .any all.toArray listed = [] → ∀ j, j < all.length → listed.getD j false = true := by
    intro listed hsz hr j
    induction j using Nat.strongRecOn with
    | _ j ih =>
      intro hj
      cases hb : listed.getD j false with
      | true => rfl
      | false =>
        have : j ∈ Region.ready .any all.toArray listed := mem_ready.2 ⟨by rw [getD_lt hsz hj]; exact hb, all[j], by simp [hj], fun e he hbind => by
          have D := wellB_spec hW (List.getElem?_eq_getElem hj)
          have := D.back e.on (mem_binds.2 ⟨e, he, hbind, rfl⟩)
          exact ih e.on this (by omega)⟩
        rw [hr] at this
        cases this
  have hend : ∀ {listed : Array Bool} {a : Act} {w : World} {V : List Bool} {p : Plan} {b : Act} {env : Env} {base hs : Hp}, Inv2 G T ds N all K listed a w V p b env base hs → Region.ready .any all.toArray listed = [] → Q .normal a w := by
    intro listed a w V p b env base hs I hr
    obtain ⟨V, p, b, env, base, I, hnq⟩ := Inv2.ahead hT hW p V b env base hs I
    have hl := hall I.size hr
    have hV : ∀ i, i < V.length → In V i := fun i hi => I.sub i (hl i (by rw [← I.vsize]; exact hi))
    have hp : p = .done := by
      have hpb := I.pb
      cases p with
      | done => rfl
      | q j r => exact absurd rfl (hnq j r)
      | one i s r =>
        unfold planB at hpb
        simp only [Bool.and_eq_true] at hpb
        obtain ⟨o, _, _, h1, h2, _⟩ := open_spec hpb.1.1.2
        exact absurd (hV i h1) h2
      | two i r j s =>
        unfold planB at hpb
        simp only [Bool.and_eq_true] at hpb
        obtain ⟨o, _, _, h1, h2, _⟩ := open_spec hpb.1.1.1.2
        exact absurd (hV i h1) h2
    subst hp
    have hab : a = b := by
      have ht : a.tmps = b.tmps := by
        apply Array.ext_getElem?
        intro t
        exact I.same t fun i o ho hi hu => by
          have : i < all.length := (List.getElem?_eq_some_iff.1 ho).1
          rw [hl i this] at hu
          cases hu
      have hd : a.defers = b.defers := by rw [I.adef, I.fits.defers]
      cases a; cases b; simp_all
    rw [hab]
    exact hQ env hs b w I.vc I.fits I.st
  intro fuel
  induction fuel with
  | zero =>
    intro listed a w V p b env base hs I ht
    have hr : Region.ready .any all.toArray listed = [] := by
      rw [List.eq_nil_iff_forall_not_mem]
      intro i hi
      obtain ⟨h1, o, ho, _⟩ := mem_ready.1 hi
      have hlt : i < all.length := by
        rw [List.getElem?_toArray] at ho
        exact (List.getElem?_eq_some_iff.1 ho).1
      have := todo_set hlt I.size h1
      omega
    exact ⟨hr, hend I hr⟩
  | succ fuel ih =>
    intro listed a w V p b env base hs I ht
    refine ⟨hend I, fun i hi => ?_⟩
    obtain ⟨V, p, b, env, base, I, hnq⟩ := Inv2.ahead hT hW p V b env base hs I
    obtain ⟨hu, o, ho, hdeps⟩ := mem_ready.1 hi
    have ho' : all[i]? = some o := by rwa [List.getElem?_toArray] at ho
    have hlt : i < all.length := (List.getElem?_eq_some_iff.1 ho').1
    have hu' : listed.getD i false = false := by rw [← getD_lt I.size hlt]; exact hu
    have htd := todo_set hlt I.size hu
    have D := wellB_spec hW ho'
    have hdep : ∀ j ∈ bindsOf o, listed.getD j false = true := by
      intro j hj
      obtain ⟨e, he, hb, hon⟩ := mem_binds.1 hj
      rw [← hon]
      exact hdeps e he hb
    have hlook : ∀ t ∈ o.looksAt all.toArray, a.tmps[t]? = b.tmps[t]? := by
      intro t htl
      refine I.same t fun j x hx hj hun hd => ?_
      rw [hdep j ((I.pend j x hx ‹_› hun).anti i o ho' t htl hd)] at hun
      cases hun
    have hsz' : (listed.setIfInBounds i true).size = all.length := by simp [I.size]
    have hL' : Closed all fun k => (listed.setIfInBounds i true).getD k false = true := by
      intro k x hk hx j hj
      have hjl : j < all.length := Nat.lt_trans ((wellB_spec hW hx).back j hj) (List.getElem?_eq_some_iff.1 hx).1
      rcases getD_set hk with rfl | hk
      · rw [ho'] at hx; cases hx
        exact getD_set' I.size hjl (.inr (hdep j hj))
      · exact getD_set' I.size hjl (.inr (I.closedL k x hk hx j hj))
    have hnot : ∀ k, (listed.setIfInBounds i true).getD k false = false → k ≠ i ∧ listed.getD k false = false := by
      intro k hk
      refine ⟨?_, ?_⟩
      · rintro rfl
        rw [getD_set' I.size hlt (.inl rfl)] at hk; cases hk
      · cases hx : listed.getD k false with
        | false => rfl
        | true =>
          by_cases hkl : k < all.length
          · rw [getD_set' I.size hkl (.inr hx)] at hk; cases hk
          · rw [Array.getD_eq_getD_getElem?, Array.getElem?_eq_none (by rw [I.size]; omega)] at hx; cases hx
    unfold wpOpIn
    rw [ho]
    dsimp only
    rw [same_wanted hlook]
    by_cases hin : In V i
    · -- it was reckoned
      obtain ⟨v, hs0, hslot, hdoes⟩ := (I.pend i o ho' hin hu').raw
      have hinv : ∀ w', St G hs w' → Inv2 G T ds N all K (listed.setIfInBounds i true) (a.put o.dst v) w' V p b env base hs := by
        intro w' hw'
        refine ⟨hsz', I.vsize, by cases o.dst <;> simp [Act.put, I.asize], by cases o.dst <;> simp [Act.put, I.adef], ?_, hL', I.closedV, I.fits, hw', I.bst, I.vc, I.pb, fun k x hx hk hun => I.pend k x hx hk (hnot k hun).2, ?_⟩
        · intro k hk
          rcases getD_set hk with rfl | hk
          · exact hin
          · exact I.sub k hk
        · intro t htn
          by_cases hd : o.dst = some t
          · have hb1 := hslot t hd
            rw [hb1, hd]
            have hbs : t < b.tmps.size := (Array.getElem?_eq_some_iff.1 hb1).1
            exact Array.getElem?_setIfInBounds_self_of_lt (by rw [I.asize, ← I.fits.size]; exact hbs)
          · rw [put_other hd]
            refine I.same t fun j x hx hj hun => ?_
            by_cases hji : j = i
            · subst hji
              rw [ho'] at hx
              obtain rfl := Option.some.inj hx
              exact hd
            · refine htn j x hx hj ?_
              cases hb : (listed.setIfInBounds i true).getD j false with
              | false => rfl
              | true =>
                rcases getD_set hb with h | h
                · exact absurd h hji
                · rw [hun] at h; cases h
      rcases hdoes with ⟨hw1, hq, hst⟩ | ⟨hw1, rfl⟩
      · rw [if_pos hw1]
        have he : execOp a.eval o = execOp b.eval o := same_exec D.sel hlook
        unfold Oper.wpIn
        refine ⟨fun _ _ => trivial, ?_⟩
        rcases hst with hp | hst
        · rw [Oper.semAt_eq _ _ _ (hq.pureNoDefer hp), he, hq.2 hp w]
          exact ih _ _ w V p b env base hs (hinv w I.st) (by omega)
        · rw [Oper.semAt_eq _ _ _ (hq.noDefer I.st (fun w hw => hst w (I.bst w hw))), he]
          rcases hq.1 hs w I.st (fun w hw => hst w (I.bst w hw)) with hr | ⟨f, args, hr, hc⟩
          · rw [hr]
            exact ih _ _ w V p b env base hs (hinv w I.st) (by omega)
          · rw [hr, Oper.uponIn_enter]
            refine ⟨fun h => by simp [FR] at h, (callsIn_FR hc).mono ?_⟩
            rintro e w' ⟨rfl, hw'⟩
            exact ih _ _ w' V p b env base hs (hinv w' hw') (by omega)
      · rw [if_neg (by rw [hw1]; exact Bool.false_ne_true)]
        exact ⟨fun _ _ => trivial, ih _ _ w V p b env base hs (hinv w I.st) (by omega)⟩
    · -- it was not
      have hiV : i < V.length := by rw [I.vsize]; exact hlt
      have hdV : ∀ j ∈ bindsOf o, In V j := fun j hj => I.sub j (hdep j hj)
      have hon : onth all i = some o := by rw [← onth_eq]; exact ho'
      obtain ⟨safe, p', hvc, hpb, hsafe⟩ : ∃ safe p', (guardK all env o.guard (evc G T hs env o.op fun v hs' => wk2 safe base hs' fun base' => dstK N o.dst v env fun env' => planVC2 G T N all p' env' base' hs' K) (dstK N o.dst undef env fun env' => planVC2 G T N all p' env' base hs K)) ∧
          planB all p' (V.set i true) = true ∧ (safe = true → safeB all V i = true) := by
        have hpb := I.pb
        have hvc := I.vc
        cases p with
        | done =>
          exfalso
          unfold planB at hpb
          have := List.all_eq_true.1 hpb V[i] (List.getElem_mem hiV)
          exact hin (by unfold In; rw [List.getElem?_eq_getElem hiV]; exact congrArg some this)
        | q j r => exact absurd rfl (hnq j r)
        | one k safe r =>
          unfold planB at hpb
          simp only [Bool.and_eq_true] at hpb
          have := only_spec I.vsize hpb.1.1.1 ho' hin hdV
          simp only [List.mem_cons, List.not_mem_nil, or_false] at this
          subst this
          refine ⟨safe, r, ?_, hpb.2, fun h => ?_⟩
          · change (match onth all i with
              | some o => guardK all env o.guard (evc G T hs env o.op fun v hs' => wk2 safe base hs' fun base' => dstK N o.dst v env fun env' => planVC2 G T N all r env' base' hs' K) (dstK N o.dst undef env fun env' => planVC2 G T N all r env' base hs K)
              | none => False) at hvc
            rwa [hon] at hvc
          · have := hpb.1.2
            rw [h] at this
            simpa using this
        | two k r j s =>
          unfold planB at hpb
          simp only [Bool.and_eq_true] at hpb
          have := only_spec I.vsize hpb.1.1.1.1 ho' hin hdV
          change Both
            (match onth all k with
            | some o => guardK all env o.guard (evc G T hs env o.op fun v hs' => wk2 false base hs' fun base' => dstK N o.dst v env fun env' => planVC2 G T N all r env' base' hs' K) (dstK N o.dst undef env fun env' => planVC2 G T N all r env' base hs K)
            | none => False)
            (match onth all j with
            | some o => guardK all env o.guard (evc G T hs env o.op fun v hs' => wk2 false base hs' fun base' => dstK N o.dst v env fun env' => planVC2 G T N all s env' base' hs' K) (dstK N o.dst undef env fun env' => planVC2 G T N all s env' base hs K)
            | none => False) at hvc
          simp only [List.mem_cons, List.not_mem_nil, or_false] at this
          rcases this with rfl | rfl
          · have h1 := hvc.fst
            rw [hon] at h1
            exact ⟨false, r, h1, hpb.1.2, fun h => by cases h⟩
          · have h1 := hvc.snd
            rw [hon] at h1
            exact ⟨false, s, h1, hpb.2, fun h => by cases h⟩
      have hinv : ∀ v env2 base2 hs2 w', Fits ds N env2 (b.put o.dst v) → St G hs2 w' → planVC2 G T N all p' env2 base2 hs2 K → (∀ w, St G hs2 w → St G base2 w) → (∀ k x, all[k]? = some x → In V k → listed.getD k false = false → pureOp x.op = true ∨ ∀ w, St G base2 w → St G base w) →
          Inv2 G T ds N all K (listed.setIfInBounds i true) (a.put o.dst v) w' (V.set i true) p' (b.put o.dst v) env2 base2 hs2 := by
        intro v env2 base2 hs2 w' hf2 hw' hvc2 hbs hweak
        refine ⟨hsz', by simp [I.vsize], by cases o.dst <;> simp [Act.put, I.asize], by cases o.dst <;> simp [Act.put, I.adef], ?_, hL', closed_set I.closedV hiV ho' hdV, hf2, hw', hbs, hvc2, hpb, ?_, ?_⟩
        · intro k hk
          rw [in_set hiV]
          rcases getD_set hk with rfl | hk
          · exact .inl rfl
          · exact .inr (I.sub k hk)
        · intro k x hx hk hun
          obtain ⟨hne, hun⟩ := hnot k hun
          have hk' := ((in_set hiV).1 hk).resolve_left hne
          refine (I.pend k x hx hk' hun).put hW I.closedV hx hk' ho' hin (fun t ht hdt => ?_) (hweak k x hx hk' hun)
          rcases (wellB_spec hW hx).waits t ht i o ho' hdt with h | h | h
          · exact hin (I.closedV k x hk' hx i h)
          · rw [hdep k h] at hun; cases hun
          · exact hne h.symm
        · intro t htn
          by_cases hd : o.dst = some t
          · rw [hd]
            exact put_same (by rw [I.asize, I.fits.size])
          · rw [put_other hd, put_other hd]
            refine I.same t fun j x hx hj hun => htn j x hx ((in_set hiV).2 (.inr hj)) ?_
            cases hb : (listed.setIfInBounds i true).getD j false with
            | false => rfl
            | true =>
              rcases getD_set hb with h | h
              · rw [h] at hj; exact absurd hj hin
              · rw [hun] at h; cases h
      rcases guardK_out I.fits hvc with ⟨hw1, hrun⟩ | ⟨hw1, hskip⟩
      · rw [if_pos hw1]
        have he : execOp a.eval o = execOp b.eval o := same_exec D.sel hlook
        have hdo := evc_sound hT I.fits.agrees hrun
        have key : ∀ v hs2 w', (wk2 safe base hs2 fun base' => dstK N o.dst v env fun env' => planVC2 G T N all p' env' base' hs2 K) → St G hs2 w' →
            wpAnyIn (FR r) 0 G.P .any all.toArray Q fuel (listed.setIfInBounds i true) (a.put o.dst v) w' := by
          intro v hs2 w' hd hw'
          obtain ⟨base2, hd, hbs, hweak⟩ : ∃ base2, (dstK N o.dst v env fun env' => planVC2 G T N all p' env' base2 hs2 K) ∧ (∀ w, St G hs2 w → St G base2 w) ∧ (∀ k x, all[k]? = some x → In V k → listed.getD k false = false → pureOp x.op = true ∨ ∀ w, St G base2 w → St G base w) := by
            cases safe with
            | true =>
              refine ⟨[], hd, fun w hw => hw.sub (List.nil_sublist _), fun k x hx hk hun => ?_⟩
              rcases safe_spec I.vsize (hsafe rfl) ho' I.closedL hdep k x hx hk with h | h
              · exact .inl h
              · rw [hun] at h; cases h
            | false =>
              obtain ⟨h1, h2⟩ := Need.out hd
              exact ⟨base, h2, fun w hw => hw.sub h1, fun _ _ _ _ _ => .inr fun w hw => hw⟩
          obtain ⟨env2, h1, h2⟩ := dstK_out I.fits hd
          exact ih _ _ w' _ _ _ env2 base2 hs2 (hinv v env2 base2 hs2 w' h2 hw' h1 hbs hweak) (by omega)
        unfold Oper.wpIn
        refine ⟨fun _ _ => trivial, ?_⟩
        rw [Oper.semAt_eq _ _ _ (by
          intro c hc
          have := no_defer hdo I.st c
          exact this hc), he]
        rcases hdo w I.st with ⟨v, w', hs2, hr, hw', hk⟩ | ⟨w', hs2, hr, hw', hk⟩ | ⟨f, args, hr, hc⟩
        · rw [hr]; exact key v hs2 w' hk hw'
        · rw [hr]; exact key undef hs2 w' hk hw'
        · rw [hr, Oper.uponIn_enter]
          refine ⟨fun h => by simp [FR] at h, (callsIn_FR hc).mono ?_⟩
          rintro e w' ⟨v, hs2, rfl, hw', hk⟩
          exact key v hs2 w' hk hw'
      · rw [if_neg (by rw [hw1]; exact Bool.false_ne_true)]
        obtain ⟨env2, h1, h2⟩ := dstK_out I.fits hskip
        exact ⟨fun _ _ => trivial, ih _ _ w _ _ _ env2 base hs (hinv undef env2 base hs w h2 I.st h1 I.bst (fun _ _ _ _ _ => .inr fun w hw => hw)) (by omega)⟩

theorem draw_sound2 (hT : TabOK G.P T) {id : Nat} {ops : Array Oper} {p : Plan} {Q : Exit → Act → World → Prop} {env : Env} {hs : Hp} {a : Act} {w : World}
    (hQ : ∀ env hs a w, K env hs → Fits ds N env a → St G hs w → Q .normal a w) (hW : wellB ops.toList = true) (hB : planB ops.toList p (List.replicate ops.toList.length false) = true)
    (h : planVC2 G T N ops.toList p env [] hs K) (hf : Fits ds N env a) (hw : St G hs w) :
    (Code.region id ops true).wpIn (FR r) 0 G.P Q a w := by
  have hno : ∀ (i : Nat) (h : (Array.replicate ops.toList.length false).getD i false = true), False := by
    intro i h
    simp [Array.getD_eq_getD_getElem?, Array.getElem?_replicate] at h
    split at h <;> simp at h
  have hnV : ∀ i, ¬ In (List.replicate ops.toList.length false) i := by
    intro i hi
    unfold In at hi
    rw [List.getElem?_replicate] at hi
    split at hi <;> simp at hi
  have I : Inv2 G T ds N ops.toList K (Array.replicate ops.toList.length false) a { w with drawn := w.drawn + 1 } (List.replicate ops.toList.length false) p a env [] hs :=
    ⟨by simp, by simp, hf.size, hf.defers, fun i hi => (hno i hi).elim, fun i o hi => (hno i hi).elim, fun i o hi => (hnV i hi).elim, hf, hw.drawn _, fun w hw => hw.sub (List.nil_sublist _), h, hB, fun i o _ hi => (hnV i hi).elim, fun _ _ => rfl⟩
  have := draw_any2 (r := r) hT hW hQ ops.size (Array.replicate ops.toList.length false) a _ _ p a env [] hs I (by
    unfold todo
    have := List.length_filter_le (fun i => !(Array.replicate ops.toList.length false).getD i true) (List.range ops.toList.length)
    simpa using this)
  refine wpIn_region_any hT.mixed ?_
  rw [Array.toArray_toList, Array.length_toList] at this
  exact this
end
end Go.Proofs.YtnlheljpagpiiaaGreat
