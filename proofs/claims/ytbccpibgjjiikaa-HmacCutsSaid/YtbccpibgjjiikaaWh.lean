/-
  Code, and calls: what a function's text comes to.
-/
import Derived.Test.YtbccpibgjjiikaaWg
import Derived.Deep.LoopGhost
import Derived.Scope
set_option linter.unusedVariables false
set_option linter.unusedSimpArgs false
namespace Go.Proofs.Ytbccpibgjjiikaa
variable {G : Cx} {T : Tab} {r : Option Nat} {ds : List Deferred}

def Sub (e' e : Env) : Prop := ∀ i v, lk e' i = some v → lk e i = some v
/-- What is known may be said by less. -/
def Weak (G : Cx) (I : Env → Hp → Prop) (env : Env) (hs : Hp) : Prop := ∃ env' hs', Sub env' env ∧ (∀ w, St G hs w → St G hs' w) ∧ I env' hs'
structure LoopVC (G : Cx) (body : Env → Hp → (Env → Hp → Prop) → Prop) (env : Env) (hs : Hp) : Prop where wrap ::
  raw : ∃ I : Nat → Env → Hp → Prop, (∃ n, Weak G (I n) env hs) ∧ ∀ n env hs, I n env hs → body env hs fun env' hs' => ∃ m, m < n ∧ Weak G (I m) env' hs'
theorem LoopVC_eq (G : Cx) (body : Env → Hp → (Env → Hp → Prop) → Prop) (env : Env) (hs : Hp) : LoopVC G body env hs = (∃ I : Nat → Env → Hp → Prop, (∃ n, Weak G (I n) env hs) ∧ ∀ n env hs, I n env hs → body env hs fun env' hs' => ∃ m, m < n ∧ Weak G (I m) env' hs') := propext ⟨fun h => h.raw, fun h => ⟨h⟩⟩
theorem LoopVC.mk {body : Env → Hp → (Env → Hp → Prop) → Prop} {env : Env} {hs : Hp} (I : Nat → Env → Hp → Prop) (n : Nat) (h0 : Weak G (I n) env hs)
    (h : ∀ n env hs, I n env hs → body env hs fun env' hs' => ∃ m, m < n ∧ Weak G (I m) env' hs') : LoopVC G body env hs := by
  rw [LoopVC_eq]
  exact ⟨I, ⟨n, h0⟩, h⟩
def codeVC (G : Cx) (T : Tab) (N : Nat) (c : Code) : Env → Hp → (Env → Hp → Prop) → (Nat → Env → Hp → Prop) → (Env → Hp → Prop) → Prop :=
  Code.rec (motive := fun _ => Env → Hp → (Env → Hp → Prop) → (Nat → Env → Hp → Prop) → (Env → Hp → Prop) → Prop)
    (skip := fun env hs K _ _ => K env hs)
    (label := fun _ env hs K _ _ => K env hs)
    (region := fun _ ops draw env hs K _ _ => match draw with
      | false => opsVC G T N ops.toList ops.toList env hs K
      | true => Need (wellB ops.toList = true) (Pick (fun p => planB ops.toList p (List.replicate ops.toList.length false) = true) fun p => planVC G T N ops.toList p env hs K))
    (seq := fun _ _ ia ib env hs K X R => ia env hs (fun env' hs' => ib env' hs' K X R) X R)
    (cond := fun c _ _ ia ib env hs K X R => evK env c fun
      | .bool true => ia env hs K X R
      | .bool false => ib env hs K X R
      | _ => False)
    (block := fun id _ ic env hs K X R => ic env hs K (fun i env' hs' => match Nat.beq i id with
        | true => K env' hs'
        | false => X i env' hs') R)
    (exit := fun id env hs _ X _ => X id env hs)
    (ret := fun env hs _ _ R => R env hs)
    (scope := fun _ _ _ _ _ _ _ => False)
    (loop := fun _ ic env hs _ X R => LoopVC G (fun env' hs' K' => ic env' hs' K' X R) env hs)
    (rangeFunc := fun _ _ _ _ _ _ _ _ _ _ _ => False)
    (goto := fun _ _ _ _ _ _ => False)
    (refuse := fun _ _ _ _ _ _ => False) c

/-- What the conditions mean: every frame and world that fit end so. -/
def Met (G : Cx) (ds : List Deferred) (N : Nat) (K : Env → Hp → Prop) (X : Nat → Env → Hp → Prop) (R : Env → Hp → Prop) (Q : Exit → Act → World → Prop) : Prop :=
  (∀ env hs a w, K env hs → Fits ds N env a → St G hs w → Q .normal a w) ∧ (∀ id env hs a w, X id env hs → Fits ds N env a → St G hs w → Q (.exit id) a w) ∧
  (∀ env hs a w, R env hs → Fits ds N env a → St G hs w → Q .ret a w)
theorem Fits.sub {N : Nat} {env env' : Env} {a : Act} (h : Fits ds N env a) (hs : Sub env' env) : Fits ds N env' a := ⟨h.size, h.defers, fun i v hi => h.has i v (hs i v hi)⟩

theorem wpIn_loop_ghost' {F : Fence} {rm : Nat} {P : Program} {Q : Exit → Act → World → Prop} {a : Act} {w : World} {c : Code} (I : Nat → Act → World → Prop) (n₀ : Nat) (h₀ : I n₀ a w)
    (round : ∀ n a w, I n a w → c.wpIn F rm P (Exit.then (fun a' w' => ∃ n', n' < n ∧ I n' a' w') Q) a w) : (Code.loop c).wpIn F rm P Q a w := by
  refine wpIn_loop (fun a w => ∃ n, I n a w) (fun a w => leastOf (fun n => I n a w)) ⟨n₀, h₀⟩ ?_
  intro a w hI
  refine wpIn_mono (round _ a w (leastOf_spec hI).1) ?_
  intro e a' w' hq
  cases e with
  | normal =>
    obtain ⟨n', hlt, hI'⟩ := hq
    exact show (∃ n, I n a' w') ∧ leastOf (fun n => I n a' w') < leastOf (fun n => I n a w) from ⟨⟨n', hI'⟩, Nat.lt_of_le_of_lt ((leastOf_spec ⟨n', hI'⟩).2 n' hI') hlt⟩
  | _ => exact hq

theorem codeVC_sound (hT : TabOK G.P T) {N : Nat} (c : Code) : ∀ (env : Env) (hs : Hp) (K : Env → Hp → Prop) (X : Nat → Env → Hp → Prop) (R : Env → Hp → Prop) (Q : Exit → Act → World → Prop) (a : Act) (w : World),
    codeVC G T N c env hs K X R → Met G ds N K X R Q → Fits ds N env a → St G hs w → c.wpIn (FR r) 0 G.P Q a w := by
  induction c with
  | skip => intro env hs K X R Q a w h hM hf hw; exact wpIn_skip (hM.1 _ _ _ _ h hf hw)
  | label l => intro env hs K X R Q a w h hM hf hw; exact wpIn_label (hM.1 _ _ _ _ h hf hw)
  | region id ops draw =>
    intro env hs K X R Q a w h hM hf hw
    cases draw with
    | false => exact region_sound hT hM.1 h hf hw
    | true =>
      obtain ⟨h1, h2⟩ := Need.out h
      obtain ⟨p, h3, h4⟩ := Pick.out h2
      exact draw_sound hT hM.1 h1 h3 h4 hf hw
  | seq x y ihx ihy =>
    intro env hs K X R Q a w h hM hf hw
    refine wpIn_seq (ihx _ _ _ _ _ _ _ _ h ⟨fun env' hs' a' w' hk hf' hw' => ?_, fun id env' hs' a' w' hk hf' hw' => hM.2.1 _ _ _ _ _ hk hf' hw', fun env' hs' a' w' hk hf' hw' => hM.2.2 _ _ _ _ hk hf' hw'⟩ hf hw)
    exact ihy _ _ _ _ _ _ _ _ hk hM hf' hw'
  | cond c x y ihx ihy =>
    intro env hs K X R Q a w h hM hf hw
    obtain ⟨v, hv, h⟩ := evK_some h
    have hc := hf.agrees _ _ hv
    split at h
    · exact wpIn_cond hc (ihx _ _ _ _ _ _ _ _ h hM hf hw)
    · exact wpIn_cond hc (ihy _ _ _ _ _ _ _ _ h hM hf hw)
    · exact h.elim
  | block id c ih =>
    intro env hs K X R Q a w h hM hf hw
    refine wpIn_block (ih _ _ _ _ _ _ _ _ h ⟨fun env' hs' a' w' hk hf' hw' => hM.1 _ _ _ _ hk hf' hw', fun i env' hs' a' w' hk hf' hw' => ?_, fun env' hs' a' w' hk hf' hw' => hM.2.2 _ _ _ _ hk hf' hw'⟩ hf hw)
    show (if i = id then Q .normal a' w' else Q (.exit i) a' w')
    dsimp only at hk
    split at hk
    · rename_i hb
      rw [if_pos (Nat.eq_of_beq_eq_true hb)]
      exact hM.1 _ _ _ _ hk hf' hw'
    · rename_i hb
      rw [if_neg (by rintro rfl; rw [Nat.beq_refl] at hb; cases hb)]
      exact hM.2.1 _ _ _ _ _ hk hf' hw'
  | loop c ih =>
    intro env hs K X R Q a w h hM hf hw
    replace h : LoopVC G (fun env' hs' K' => codeVC G T N c env' hs' K' X R) env hs := h
    rw [LoopVC_eq] at h
    obtain ⟨I, ⟨n, env1, hs1, hsub, hst, hI⟩, hround⟩ := h
    refine wpIn_loop_ghost' (fun n a w => ∃ env hs, I n env hs ∧ Fits ds N env a ∧ St G hs w) n ⟨env1, hs1, hI, hf.sub hsub, hst w hw⟩ ?_
    rintro n a w ⟨env2, hs2, hI2, hf2, hw2⟩
    refine ih _ _ _ _ _ _ _ _ (hround n env2 hs2 hI2) ⟨fun env' hs' a' w' hk hf' hw' => ?_, fun id env' hs' a' w' hk hf' hw' => hM.2.1 _ _ _ _ _ hk hf' hw', fun env' hs' a' w' hk hf' hw' => hM.2.2 _ _ _ _ hk hf' hw'⟩ hf2 hw2
    obtain ⟨m, hm, env3, hs3, hsub3, hst3, hI3⟩ := hk
    exact ⟨m, hm, env3, hs3, hI3, hf'.sub hsub3, hst3 _ hw'⟩
  | exit id => intro env hs K X R Q a w h hM hf hw; exact wpIn_exit (hM.2.1 _ _ _ _ _ h hf hw)
  | ret => intro env hs K X R Q a w h hM hf hw; exact wpIn_ret (hM.2.2 _ _ _ _ h hf hw)
  | _ => intro env hs K X R Q a w h; exact h.elim

/-! ### Calls -/
def resK (G : Cx) (T : Tab) (env : Env) (hs : Hp) (K : Value → Prop) : ResultVar → Prop
  | .tmp t => evK env (.tmp t) K
  | .cell t ty => evK env (.tmp t) fun
    | .pointer (some a) => loadK G T hs ty a K
    | _ => False
def ressK (G : Cx) (T : Tab) (env : Env) (hs : Hp) (K : List Value → Prop) : List ResultVar → Prop
  | [] => K []
  | r :: l => resK G T env hs (fun v => ressK G T env hs (fun vs => K (v :: vs)) l) r
def packed : List Value → Value
  | [v] => v
  | vs => .tuple vs.toArray
def retK (G : Cx) (T : Tab) (rs : List ResultVar) (K : Value → Hp → Prop) (env : Env) (hs : Hp) : Prop := ressK G T env hs (fun vs => K (packed vs) hs) rs
def mkEnv : List Value → Nat → Env
  | [], _ => []
  | v :: r, n => (n, v) :: mkEnv r (n + 1)
theorem mkEnv_lk : ∀ (l : List Value) (n i : Nat) (v : Value), lk (mkEnv l n) i = some v → n ≤ i ∧ l[i - n]? = some v
  | [], _, _, _, h => by simp [mkEnv, lk] at h
  | u :: r, n, i, v, h => by
    simp only [mkEnv, lk] at h
    split at h
    · rename_i hb
      obtain rfl := Nat.eq_of_beq_eq_true hb
      exact ⟨Nat.le_refl _, by simpa using h⟩
    · rename_i hb
      obtain ⟨h1, h2⟩ := mkEnv_lk r (n + 1) i v h
      refine ⟨by omega, ?_⟩
      rw [show i - n = (i - (n + 1)) + 1 by omega]
      simpa using h2
/-- How a call ends. -/
def Post (G : Cx) (K : Value → Hp → Prop) : Ending → World → Prop := fun e w' => ∃ v hs', e = .returned v ∧ K v hs' ∧ St G hs' w'

def resOf (tmps : Array Value) : ResultVar → Sem Value
  | .tmp t => pure (tmps.getD t undef)
  | .cell b t => do loadVar t (← asAddr (tmps.getD b undef))
theorem q_resK {hs : Hp} {env : Env} {a : Act} {N : Nat} {K : Value → Prop} (hT : TabOK G.P T) (hf : Fits ds N env a) (r : ResultVar) (h : resK G T env hs K r) :
    qvc G (resOf a.tmps r) hs K := by
  cases r with
  | tmp t =>
    have := evK_out hf.agrees h
    exact this
  | cell t ty =>
    obtain ⟨v, hv, h⟩ := evK_some h
    have hc := hf.agrees _ _ hv
    split at h
    · rename_i ad
      have hc' : a.tmps.getD t undef = .pointer (some ad) := hc
      show qvc G (do loadVar ty (← asAddr (a.tmps.getD t undef))) hs K
      rw [hc']
      exact q_loadK hT h
    · exact h.elim
theorem q_resL {hs : Hp} {env : Env} {a : Act} {N : Nat} (hT : TabOK G.P T) (hf : Fits ds N env a) : ∀ (l : List ResultVar) (K : List Value → Prop), ressK G T env hs K l →
    qvc G (l.mapM (resOf a.tmps)) hs K
  | [], K, h => by simp only [List.mapM_nil]; exact h
  | r :: l, K, h => by
    simp only [List.mapM_cons]
    unfold ressK at h
    have hm : ∀ (r : ResultVar) (K1 K2 : Value → Prop), (∀ v, K1 v → K2 v) → resK G T env hs K1 r → resK G T env hs K2 r := by
      intro r K1 K2 hk h
      cases r with
      | tmp t =>
        obtain ⟨v, hv, h⟩ := evK_some (show evK env (.tmp t) K1 from h)
        show evK env (.tmp t) K2
        unfold evK
        rw [hv]
        exact hk _ h
      | cell t ty =>
        obtain ⟨v, hv, h⟩ := evK_some (show evK env (.tmp t) _ from h)
        show evK env (.tmp t) fun
          | .pointer (some a) => loadK G T hs ty a K2
          | _ => False
        unfold evK
        rw [hv]
        dsimp only at h ⊢
        split at h
        · unfold loadK at h ⊢
          split at h
          · split at h
            · obtain ⟨x, h1, h2⟩ := h.out; exact Pick.mk x h1 (hk _ h2)
            · obtain ⟨x, h1, h2⟩ := h.out; exact Pick.mk x h1 (hk _ h2)
          · exact h.elim
        · exact h.elim
    refine qvc_bind _ _ _ _ (q_resK hT hf r (hm r _ _ (fun v hv => ?_) h))
    exact qvc_bind _ _ _ _ (q_resL hT hf l _ hv)
theorem retK_out {hs : Hp} {env : Env} {a : Act} {N : Nat} {fn : Func} {w : World} {K : Value → Hp → Prop} (hT : TabOK G.P T) (hf : Fits ds N env a) (hw : St G hs w) (h : retK G T fn.results.toList K env hs) :
    ∃ v, (results fn a.tmps).run G.P w = .ok v w ∧ K v hs := by
  have h1 := q_resL hT hf fn.results.toList _ h
  have h2 : qvc G (results fn a.tmps) hs fun v => K v hs := by
    have e : results fn a.tmps = (do let vs ← fn.results.mapM (resOf a.tmps); pure (if h : vs.size = 1 then vs[0] else .tuple vs)) := by
      unfold results
      congr 1
    rw [e, Array.mapM_eq_mapM_toList]
    refine qvc_bind _ _ _ _ ?_
    rw [map_eq_pure_bind]
    refine qvc_bind _ _ _ _ ?_
    have hq : ∀ {α : Type} (m : Sem α) (K1 K2 : α → Prop), (∀ a, K1 a → K2 a) → qvc G m hs K1 → qvc G m hs K2 := by
      intro α m
      induction m with
      | pure a => intro K K' hk h; exact hk _ h
      | load m a k ih => intro K K' hk h; obtain ⟨v, hv, h⟩ := h; exact ⟨v, hv, ih v K K' hk h⟩
      | shape r k ih => intro K K' hk h; obtain ⟨e, he, hr, h⟩ := h; exact ⟨e, he, hr, ih _ K K' hk h⟩
      | program k ih => intro K K' hk h; exact ih _ K K' hk h
      | mark m k ih => intro K K' hk h; exact ih K K' hk h
      | _ => intro K K' hk h; exact h.elim
    refine hq _ _ _ (fun vs hvs => ?_) h1
    show qvc G (pure (if h : (vs.toArray).size = 1 then vs.toArray[0] else Value.tuple vs.toArray) : Sem Value) hs fun v => K v hs
    match vs, hvs with
    | [], hvs => exact hvs
    | [v], hvs => exact hvs
    | _ :: _ :: _, hvs => exact hvs
  obtain ⟨v, hr, hk⟩ := qvc_sound _ _ _ h2
  exact ⟨v, hr w hw, hk⟩

theorem calls_of_vc {P : Program} {f : Nat} {fn : Func} {c : Code} {args : List Value} {hs : Hp} {K : Value → Hp → Prop} (hP : G.P = P) (hT : TabOK P T) (hfn : P.funcs[f]? = some fn) (hb : fn.body = some c)
    (hn : args.length ≤ fn.ntmps) (hw : St G hs G.w0)
    (h : codeVC G T fn.ntmps c (mkEnv args 0) hs (retK G T fn.results.toList K) (fun _ _ _ => False) (retK G T fn.results.toList K)) :
    Calls P f args.toArray G.w0 (Post G K) := by
  subst hP
  refine calls_of_wp hfn hb ((wpIn_wide (n := 0)).1 ?_)
  rw [← FR_none]
  refine codeVC_sound (ds := []) hT c _ _ _ _ _ _ _ _ h ⟨fun env hs' a w' hk hf hw' => ?_, fun id env hs' a w' hk _ _ => hk.elim, fun env hs' a w' hk hf hw' => ?_⟩ ?_ hw
  · obtain ⟨v, h1, h2⟩ := retK_out hT hf hw' hk
    exact ⟨hf.defers, v, h1, v, hs', rfl, h2, hw'⟩
  · obtain ⟨v, h1, h2⟩ := retK_out hT hf hw' hk
    exact ⟨hf.defers, v, h1, v, hs', rfl, h2, hw'⟩
  · refine ⟨by simp; omega, rfl, fun i v hi => ?_⟩
    obtain ⟨_, h2⟩ := mkEnv_lk args 0 i v hi
    show (args.toArray ++ Array.replicate (fn.ntmps - args.toArray.size) undef)[i]? = some v
    have hlt : i < args.length := by
      have := (List.getElem?_eq_some_iff.1 h2).1
      omega
    rw [Array.getElem?_append_left (by simpa using hlt)]
    simpa using h2
theorem st_self (P : Program) (w : World) : St ⟨P, w, []⟩ [] w := ⟨rfl, rfl, rfl, Nat.le_refl _, fun _ _ _ => rfl, (by simp), List.nodup_nil, (by simp)⟩

end Go.Proofs.Ytbccpibgjjiikaa
