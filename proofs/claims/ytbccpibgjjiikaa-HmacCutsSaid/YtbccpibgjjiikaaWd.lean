/-
  Regions and code: what each comes to.
-/
import Derived.Test.YtbccpibgjjiikaaWb
import Derived.OrdersIn
set_option linter.unusedVariables false
set_option linter.unusedSimpArgs false
namespace Go.Proofs.Ytbccpibgjjiikaa
variable {G : Cx} {T : Tab} {r : Option Nat} {ds : List Deferred}

/-! ### 1. The frame -/
structure Fits (ds : List Deferred) (N : Nat) (env : Env) (a : Act) : Prop where
  size : a.tmps.size = N
  defers : a.defers = ds
  has : ∀ i v, lk env i = some v → a.tmps[i]? = some v
theorem Fits.agrees {N : Nat} {env : Env} {a : Act} (h : Fits ds N env a) : Agrees a.eval env := by
  intro x v hx
  cases x with
  | tmp i =>
    have := h.has i v hx
    simp only [Act.eval, Array.getD_eq_getD_getElem?, this, Option.getD_some]
  | const v' => exact Option.some.inj hx
  | global g => exact Option.some.inj hx
  | func f => exact Option.some.inj hx
theorem nbeq {a b : Nat} (h : ¬ b = a) : Nat.beq a b = false := by
  cases hb : Nat.beq a b with
  | false => rfl
  | true => exact absurd (Nat.eq_of_beq_eq_true hb).symm h
def putK (d : Nat) (v : Value) : Env → (Env → Prop) → Prop
  | [], K => K [(d, v)]
  | (j, u) :: r, K => match Nat.beq j d with
    | true => K ((j, v) :: r)
    | false => putK d v r fun r' => K ((j, u) :: r')
theorem putK_out {d : Nat} {v : Value} : ∀ (env : Env) (K : Env → Prop), putK d v env K → ∃ env', K env' ∧ ∀ i, lk env' i = if i = d then some v else lk env i
  | [], K, h => ⟨_, h, fun i => by
      simp only [lk]
      by_cases hd : i = d
      · subst hd; simp [Nat.beq_refl]
      · rw [if_neg hd]
        rw [nbeq hd]⟩
  | (j, u) :: r, K, h => by
    unfold putK at h
    split at h
    · rename_i hb
      have hj : j = d := Nat.eq_of_beq_eq_true hb
      subst hj
      refine ⟨_, h, fun i => ?_⟩
      simp only [lk]
      by_cases hi : i = j
      · subst hi; simp [Nat.beq_refl]
      · rw [if_neg hi]
        rw [nbeq hi]
    · rename_i hb
      obtain ⟨env', hk, hl⟩ := putK_out r _ h
      refine ⟨_, hk, fun i => ?_⟩
      simp only [lk]
      by_cases hi : i = d
      · subst hi
        rw [hb, hl, if_pos rfl]
      · rw [if_neg hi, hl, if_neg hi]
theorem Fits.put {N : Nat} {env env' : Env} {a : Act} {d : Nat} {v : Value} (h : Fits ds N env a) (hd : d < N) (hl : ∀ i, lk env' i = if i = d then some v else lk env i) : Fits ds N env' (a.put (some d) v) := by
  refine ⟨by simp [Act.put, h.size], h.defers, fun i u hi => ?_⟩
  rw [hl] at hi
  show (a.tmps.setIfInBounds d v)[i]? = some u
  by_cases hid : i = d
  · subst hid
    rw [if_pos rfl] at hi
    rw [Array.getElem?_setIfInBounds_self_of_lt (by rw [h.size]; exact hd)]
    exact hi
  · rw [if_neg hid] at hi
    rw [Array.getElem?_setIfInBounds_ne (fun h => hid h.symm)]
    exact h.has i u hi
def dstK (N : Nat) (dst : Option Nat) (v : Value) (env : Env) (K : Env → Prop) : Prop := match dst with
  | none => K env
  | some d => match Nat.blt d N with
    | true => putK d v env K
    | false => False
theorem dstK_out {N : Nat} {dst : Option Nat} {v : Value} {env : Env} {K : Env → Prop} {a : Act} (hf : Fits ds N env a) (h : dstK N dst v env K) : ∃ env', K env' ∧ Fits ds N env' (a.put dst v) := by
  unfold dstK at h
  split at h
  · exact ⟨_, h, hf⟩
  · split at h
    · rename_i hlt
      obtain ⟨env', hk, hl⟩ := putK_out _ _ h
      exact ⟨env', hk, hf.put (by simpa using hlt) hl⟩
    · exact h.elim

/-! ### 2. Guards -/
def onth : List Oper → Nat → Option Oper
  | [], _ => none
  | o :: _, 0 => some o
  | _ :: r, n + 1 => onth r n
theorem onth_eq : ∀ (l : List Oper) (n : Nat), l[n]? = onth l n
  | [], _ => rfl
  | _ :: _, 0 => rfl
  | _ :: r, n + 1 => by simpa [onth] using onth_eq r n
def sameB : Bool → Bool → Bool
  | true, true => true
  | false, false => true
  | _, _ => false
def guardK (all : List Oper) (env : Env) (g : Option (Nat × Bool)) (run skip : Prop) : Prop := match g with
  | none => run
  | some (j, want) => match onth all j with
    | some o => match o.dst with
      | some d => match lk env d with
        | some (.bool b) => match sameB b want with
          | true => run
          | false => skip
        | some (.tuple _) => skip
        | _ => False
      | none => False
    | none => False
theorem guardK_out {all : List Oper} {env : Env} {o : Oper} {run skip : Prop} {N : Nat} {a : Act} (hf : Fits ds N env a) (h : guardK all env o.guard run skip) :
    (Region.wanted o (yielded all.toArray a.tmps) = true ∧ run) ∨ (Region.wanted o (yielded all.toArray a.tmps) = false ∧ skip) := by
  unfold guardK at h
  unfold Region.wanted
  split at h
  · rename_i hg; rw [hg]; exact .inl ⟨rfl, h⟩
  · rename_i j want hg
    rw [hg]
    dsimp only
    split at h
    · rename_i o' ho
      split at h
      · rename_i d hd
        have hy : ∀ v, lk env d = some v → yielded all.toArray a.tmps j = (match v with | .bool b => some b | _ => none) := by
          intro v hv
          unfold yielded
          rw [List.getElem?_toArray, onth_eq, ho]
          simp only [Option.bind_some, hd, hf.has d v hv]
          cases v <;> rfl
        split at h
        · rename_i b hb
          have h1 := hy _ hb
          dsimp only at h1
          rw [h1]
          split at h
          · rename_i hs; left; refine ⟨?_, h⟩; cases b <;> cases want <;> simp_all [sameB]
          · rename_i hs; right; refine ⟨?_, h⟩; cases b <;> cases want <;> simp_all [sameB]
        · rename_i v hb
          have h1 := hy _ hb
          dsimp only at h1
          rw [h1]
          exact .inr ⟨rfl, h⟩
        · exact h.elim
      · exact h.elim
    · exact h.elim

/-! ### 3. A region in its order -/
def opsVC (G : Cx) (T : Tab) (N : Nat) (all : List Oper) (l : List Oper) : Env → Hp → (Env → Hp → Prop) → Prop :=
  List.rec (motive := fun _ => Env → Hp → (Env → Hp → Prop) → Prop) (fun env hs K => K env hs) (fun o _ ih env hs K => guardK all env o.guard
      (evc G T hs env o.op fun v hs' => dstK N o.dst v env fun env' => ih env' hs' K)
      (dstK N o.dst undef env fun env' => ih env' hs K)) l

/-- Frames of functions, and of a loop's rounds. -/
def FR (r : Option Nat) : Fence := { fn := fun _ => True, depth := none, alive := false, round := r }
theorem FR_none : FR none = Fence.wide := rfl
theorem callsIn_FR {P : Program} {f : FuncId} {args : Array Value} {w : World} {R : Ending → World → Prop} {n : Nat} (h : Calls P f args w R) : CallsIn (FR r) n P f args w R :=
  show CallsIn Fence.wide n P f args w R from callsIn_wide.2 h
theorem exec_defer {ρ : Operand → Value} {o : Oper} {c : Call} (h : o.op = .defer c) {P : Program} {w w' : World} {x : Next} (hr : (execOp ρ o).run P w = .ok x w') : ∃ d, x = .defer d := by
  simp only [execOp, h] at hr
  have : ∀ (m : Sem Deferred), (m >>= fun d => pure (Next.defer d)).run P w = .ok x w' → ∃ d, x = .defer d := by
    intro m hm
    rw [Sem.run_bind] at hm
    cases hx : m.run P w with
    | ok d w2 => rw [hx] at hm; simp only [Result.andThen, Sem.run] at hm; cases hm; exact ⟨_, rfl⟩
    | halt a w2 => rw [hx] at hm; simp only [Result.andThen] at hm; cases hm
  exact this _ hr
theorem no_defer {o : Oper} {a : Act} {w : World} {hs : Hp} {K : Value → Hp → Prop} (h : OpDoes G a.eval o hs K) (hw : St G hs w) : ∀ c, o.op ≠ .defer c := by
  intro c hc
  rcases h w hw with ⟨v, w', hs', hr, _⟩ | ⟨w', hs', hr, _⟩ | ⟨f, args, hr, _⟩ <;> (obtain ⟨d, hd⟩ := exec_defer hc hr; cases hd)
theorem op_wp {o : Oper} {a : Act} {w : World} {hs : Hp} {K : Value → Hp → Prop} {next : Act → World → Prop} {Q : Exit → Act → World → Prop}
    (h : OpDoes G a.eval o hs K) (hw : St G hs w) (hn : ∀ v hs' w', K v hs' → St G hs' w' → next (a.put o.dst v) w') : o.wpIn (FR r) 0 G.P a w next Q := by
  unfold Oper.wpIn
  refine ⟨fun _ _ => trivial, ?_⟩
  rw [Oper.semAt_eq _ _ _ (no_defer h hw)]
  rcases h w hw with ⟨v, w', hs', hr, hw', hk⟩ | ⟨w', hs', hr, hw', hk⟩ | ⟨f, args, hr, hc⟩
  · rw [hr]; exact hn v hs' w' hk hw'
  · rw [hr]; exact hn undef hs' w' hk hw'
  · rw [hr]
    rw [Oper.uponIn_enter]
    refine ⟨fun h => by simp [FR] at h, (callsIn_FR hc).mono ?_⟩
    rintro e w' ⟨v, hs', rfl, hw', hk⟩
    exact hn v hs' w' hk hw'

theorem opsVC_sound (hT : TabOK G.P T) {N : Nat} (all : List Oper) {Q : Exit → Act → World → Prop} {K : Env → Hp → Prop}
    (hK : ∀ env hs a w, K env hs → Fits ds N env a → St G hs w → Q .normal a w) :
    ∀ (l : List Oper) (k : Nat) (env : Env) (hs : Hp) (a : Act) (w : World), (∀ i, l[i]? = all[k + i]?) → opsVC G T N all l env hs K → Fits ds N env a → St G hs w →
      wpOpsIn (FR r) 0 G.P all.toArray Q (List.range' k l.length) a w
  | [], k, env, hs, a, w, _, h, hf, hw => hK _ _ _ _ h hf hw
  | o :: q, k, env, hs, a, w, hl, h, hf, hw => by
    have h0 : all.toArray[k]? = some o := by rw [List.getElem?_toArray]; simpa using (hl 0).symm
    have hr : ∀ i, q[i]? = all[k + 1 + i]? := fun i => by have := hl (i + 1); simpa [Nat.add_assoc, Nat.add_comm 1 i] using this
    simp only [List.length_cons, List.range'_succ]
    rw [wpOpsIn_cons]
    unfold wpOpIn
    rw [h0]
    dsimp only
    rcases guardK_out hf h with ⟨hwt, hrun⟩ | ⟨hwt, hskip⟩
    · rw [if_pos hwt]
      refine op_wp (evc_sound hT hf.agrees hrun) hw ?_
      intro v hs' w' hk hw'
      obtain ⟨env', hk', hf'⟩ := dstK_out hf hk
      exact opsVC_sound hT all hK q (k + 1) env' hs' _ w' hr hk' hf' hw'
    · rw [if_neg (by rw [hwt]; exact Bool.false_ne_true)]
      obtain ⟨env', hk', hf'⟩ := dstK_out hf hskip
      exact ⟨fun _ _ => trivial, opsVC_sound hT all hK q (k + 1) env' hs _ w hr hk' hf' hw⟩
theorem region_sound (hT : TabOK G.P T) {N id : Nat} {ops : Array Oper} {Q : Exit → Act → World → Prop} {K : Env → Hp → Prop} {env : Env} {hs : Hp} {a : Act} {w : World}
    (hK : ∀ env hs a w, K env hs → Fits ds N env a → St G hs w → Q .normal a w) (h : opsVC G T N ops.toList ops.toList env hs K) (hf : Fits ds N env a) (hw : St G hs w) :
    (Code.region id ops false).wpIn (FR r) 0 G.P Q a w := by
  refine wpIn_region ?_
  have := opsVC_sound (r := r) hT ops.toList (Q := Q) hK ops.toList 0 env hs a w (fun i => by rw [Nat.zero_add]) h hf hw
  rwa [Array.toArray_toList, Array.length_toList, ← List.range_eq_range'] at this

end Go.Proofs.Ytbccpibgjjiikaa
