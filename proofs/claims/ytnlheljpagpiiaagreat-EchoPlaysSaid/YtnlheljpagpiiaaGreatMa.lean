/-
  Verification conditions by reckoning: a state is a frame (slots with values) and a list of blocks known whole; the rules say what a piece of code comes to. The operations that only read: what each comes to, in a state. What an operation that only reads comes to, as one condition; and that the machine does so. That the machine does what the conditions of the reading operations say. The reading operations, all of them. Cuts, conversions, values built; and the reading operations as one law. Conversions, values built; and the reading operations as one law.
-/
import Derived.Calls
import Derived.Orders
import Derived.Below
import Derived.KernelRfl
import Derived.Tactics
import Derived.Laws.StructEq
import Derived.Laws.Sem
namespace Go.Proofs.YtnlheljpagpiiaaGreat
section

/-! ### 1. What is known of a world -/
/-- A block known whole. -/
structure Ent where
  b : Nat
  cs : List Value
  t : TypeId
  fr : Nat × Nat
abbrev Hp := List Ent

/-- The program, the world at the call's begin, the blocks of it that may change. -/
structure Cx where
  P : Program
  w0 : World
  fp : List Nat

structure St (G : Cx) (hs : Hp) (w : World) : Prop where
  os : w.os = G.w0.os
  tape : w.tape = G.w0.tape
  output : w.output = G.w0.output
  size : G.w0.heap.size ≤ w.heap.size
  old : ∀ b, b < G.w0.heap.size → b ∉ G.fp → w.heap[b]? = G.w0.heap[b]?
  own : ∀ e ∈ hs, w.heap[e.b]? = some (.cells e.cs.toArray e.t e.fr)
  nodup : (hs.map (·.b)).Nodup
  new : ∀ e ∈ hs, G.w0.heap.size ≤ e.b ∨ e.b ∈ G.fp

variable {G : Cx}

theorem St.lt {hs : Hp} {w : World} (h : St G hs w) {e : Ent} (he : e ∈ hs) : e.b < w.heap.size :=
  (Array.getElem?_eq_some_iff.1 (h.own e he)).1

theorem St.drawn {hs : Hp} {w : World} (h : St G hs w) (n : Nat) : St G hs { w with drawn := n } :=
  ⟨h.os, h.tape, h.output, h.size, h.old, h.own, h.nodup, h.new⟩

theorem St.push {hs : Hp} {w : World} (h : St G hs w) (cs : Array Value) (t : TypeId) (fr : Nat × Nat) :
    St G (⟨w.heap.size, cs.toList, t, fr⟩ :: hs) { w with heap := w.heap.push (.cells cs t fr) } := by
  refine ⟨h.os, h.tape, h.output, ?_, ?_, ?_, ?_, ?_⟩
  · have := h.size; simp; omega
  · intro b hb hf
    have := h.size
    show (w.heap.push _)[b]? = _
    rw [Array.getElem?_push, if_neg (by omega)]
    exact h.old b hb hf
  · intro e he
    show (w.heap.push _)[e.b]? = _
    rcases List.mem_cons.1 he with rfl | he
    · simp
    · rw [Array.getElem?_push, if_neg (by have := h.lt he; omega)]
      exact h.own e he
  · simp only [List.map_cons, List.nodup_cons]
    refine ⟨fun hm => ?_, h.nodup⟩
    obtain ⟨e, he, hb⟩ := List.mem_map.1 hm
    have := h.lt he
    omega
  · intro e he
    rcases List.mem_cons.1 he with rfl | he
    · exact .inl h.size
    · exact h.new e he

theorem St.sub {hs hs' : Hp} {w : World} (h : St G hs w) (hsub : hs'.Sublist hs) : St G hs' w :=
  ⟨h.os, h.tape, h.output, h.size, h.old, fun e he => h.own e (hsub.subset he), h.nodup.sublist (hsub.map _), fun e he => h.new e (hsub.subset he)⟩

/-- In every such world the cell holds the value. -/
def Cx.cellIs (G : Cx) (hs : Hp) (a : Addr) (v : Value) : Prop := ∀ w, St G hs w → w.cell? a = some v
/-- The cells behind one another. -/
def Cx.cellsAre (G : Cx) (hs : Hp) (a : Addr) (vs : List Value) : Prop := ∀ i v, vs[i]? = some v → G.cellIs hs (a.add i) v
/-- A store goes through, and leaves such a world. -/
def Cx.stores (G : Cx) (hs : Hp) (a : Addr) (v : Value) (hs' : Hp) : Prop :=
  ∀ w, St G hs w → (w.cell? a).isSome ∧ w.frozen? a = false ∧ St G hs' (w.setCell a v)

/-- A value of one cell. -/
def one : Value → Bool
  | .agg _ => false
  | .tuple _ => false
  | _ => true

/-! ### 2. The machine's small steps -/
def svc (G : Cx) {α : Type} : Sem α → Hp → (α → Hp → Prop) → Prop
  | .pure a, hs, K => K a hs
  | .load _ a k, hs, K => ∃ v, G.cellIs hs a v ∧ svc G (k v) hs K
  | .store _ a v k, hs, K => one v = true ∧ ∃ hs', G.stores hs a v hs' ∧ svc G k hs' K
  | .new (.cells cs t fr) k, hs, K => ∀ b, svc G (k b) (⟨b, cs.toList, t, fr⟩ :: hs) K
  | .shape r k, hs, K => ∃ e ∈ hs, e.b = r ∧ svc G (k (some (e.t, e.cs.length))) hs K
  | .freeze a n k, hs, K => ∃ hs', (∀ w, St G hs w → St G hs' (w.freeze a n)) ∧ svc G k hs' K
  | .choose q k, hs, K => ∀ n, (∃ t, n = if q.forced then 0 else q.cut t) → svc G (k n) hs K
  | .program k, hs, K => svc G (k G.P) hs K
  | .mark _ k, hs, K => svc G k hs K
  | _, _, _ => False

theorem svc_sound {α : Type} (m : Sem α) : ∀ (hs : Hp) (K : α → Hp → Prop), svc G m hs K → ∀ w, St G hs w →
    ∃ a w' hs', m.run G.P w = .ok a w' ∧ St G hs' w' ∧ K a hs' := by
  induction m with
  | pure a => intro hs K h w hw; exact ⟨a, w, hs, rfl, hw, h⟩
  | load m a k ih =>
    intro hs K h w hw
    obtain ⟨v, hv, h⟩ := h
    obtain ⟨a', w', hs', hr, h'⟩ := ih v hs K h w hw
    exact ⟨a', w', hs', by simp only [Sem.run, hv w hw]; exact hr, h'⟩
  | store m a v k ih =>
    intro hs K h w hw
    obtain ⟨h1, hs1, hst, h⟩ := h
    obtain ⟨hc, hf, hw1⟩ := hst w hw
    obtain ⟨a', w', hs', hr, h'⟩ := ih hs1 K h _ hw1
    refine ⟨a', w', hs', ?_, h'⟩
    obtain ⟨u, hu⟩ := Option.isSome_iff_exists.1 hc
    cases v <;> first | (simp [one] at h1; done) | (simp only [Sem.run, hu, hf]; exact hr)
  | new o k ih =>
    intro hs K h w hw
    cases o with
    | cells cs t fr =>
      obtain ⟨a', w', hs', hr, h'⟩ := ih w.heap.size _ K (h w.heap.size) _ (hw.push cs t fr)
      exact ⟨a', w', hs', by simp only [Sem.run]; exact hr, h'⟩
    | _ => exact h.elim
  | shape r k ih =>
    intro hs K h w hw
    obtain ⟨e, he, rfl, h⟩ := h
    obtain ⟨a', w', hs', hr, h'⟩ := ih _ hs K h w hw
    refine ⟨a', w', hs', ?_, h'⟩
    simp only [Sem.run, World.shape?, hw.own e he]
    simpa using hr
  | freeze a n k ih =>
    intro hs K h w hw
    obtain ⟨hs1, hst, h⟩ := h
    obtain ⟨a', w', hs', hr, h'⟩ := ih hs1 K h _ (hst w hw)
    exact ⟨a', w', hs', by simp only [Sem.run]; exact hr, h'⟩
  | choose q k ih =>
    intro hs K h w hw
    simp only [Sem.run]
    by_cases hq : q.forced = true
    · obtain ⟨a', w', hs', hr, h'⟩ := ih 0 hs K (h 0 ⟨0, by simp [hq]⟩) w hw
      exact ⟨a', w', hs', by rw [if_pos hq]; exact hr, h'⟩
    · obtain ⟨a', w', hs', hr, h'⟩ := ih (q.cut (w.tape w.drawn q)) hs K (h _ ⟨_, by rw [if_neg hq]⟩) _ (hw.drawn (w.drawn + 1))
      exact ⟨a', w', hs', by rw [if_neg hq]; exact hr, h'⟩
  | program k ih => intro hs K h w hw; exact ih _ hs K h w hw
  | mark m k ih => intro hs K h w hw; exact ih hs K h w hw
  | _ => intro hs K h; exact h.elim

theorem svc_bind {α β : Type} (m : Sem α) (f : α → Sem β) : ∀ (hs : Hp) (K : β → Hp → Prop),
    svc G m hs (fun a hs' => svc G (f a) hs' K) → svc G (m.bind f) hs K := by
  induction m with
  | pure a => intro hs K h; exact h
  | load m a k ih => intro hs K h; obtain ⟨v, hv, h⟩ := h; exact ⟨v, hv, ih v hs K h⟩
  | store m a v k ih => intro hs K h; obtain ⟨h1, hs1, hst, h⟩ := h; exact ⟨h1, hs1, hst, ih hs1 K h⟩
  | new o k ih =>
    intro hs K h
    cases o with
    | cells cs t fr => exact fun b => ih b _ K (h b)
    | _ => exact h.elim
  | shape r k ih => intro hs K h; obtain ⟨e, he, hr, h⟩ := h; exact ⟨e, he, hr, ih _ hs K h⟩
  | freeze a n k ih => intro hs K h; obtain ⟨hs1, hst, h⟩ := h; exact ⟨hs1, hst, ih hs1 K h⟩
  | choose q k ih => intro hs K h; exact fun n hn => ih n hs K (h n hn)
  | program k ih => intro hs K h; exact ih _ hs K h
  | mark m k ih => intro hs K h; exact ih hs K h
  | _ => intro hs K h; exact h.elim

theorem svc_mono {α : Type} (m : Sem α) : ∀ (hs : Hp) (K K' : α → Hp → Prop), (∀ a hs, K a hs → K' a hs) → svc G m hs K → svc G m hs K' := by
  induction m with
  | pure a => intro hs K K' hk h; exact hk _ _ h
  | load m a k ih => intro hs K K' hk h; obtain ⟨v, hv, h⟩ := h; exact ⟨v, hv, ih v hs K K' hk h⟩
  | store m a v k ih => intro hs K K' hk h; obtain ⟨h1, hs1, hst, h⟩ := h; exact ⟨h1, hs1, hst, ih hs1 K K' hk h⟩
  | new o k ih =>
    intro hs K K' hk h
    cases o with
    | cells cs t fr => exact fun b => ih b _ K K' hk (h b)
    | _ => exact h.elim
  | shape r k ih => intro hs K K' hk h; obtain ⟨e, he, hr, h⟩ := h; exact ⟨e, he, hr, ih _ hs K K' hk h⟩
  | freeze a n k ih => intro hs K K' hk h; obtain ⟨hs1, hst, h⟩ := h; exact ⟨hs1, hst, ih hs1 K K' hk h⟩
  | choose q k ih => intro hs K K' hk h; exact fun n hn => ih n hs K K' hk (h n hn)
  | program k ih => intro hs K K' hk h; exact ih _ hs K K' hk h
  | mark m k ih => intro hs K K' hk h; exact ih hs K K' hk h
  | _ => intro hs K K' hk h; exact h.elim

/-- What only reads: one answer, in every such world, and the world as it was. -/
def qvc (G : Cx) {α : Type} : Sem α → Hp → (α → Prop) → Prop
  | .pure a, _, K => K a
  | .load _ a k, hs, K => ∃ v, G.cellIs hs a v ∧ qvc G (k v) hs K
  | .shape r k, hs, K => ∃ e ∈ hs, e.b = r ∧ qvc G (k (some (e.t, e.cs.length))) hs K
  | .program k, hs, K => qvc G (k G.P) hs K
  | .mark _ k, hs, K => qvc G k hs K
  | _, _, _ => False

theorem qvc_sound {α : Type} (m : Sem α) : ∀ (hs : Hp) (K : α → Prop), qvc G m hs K → ∃ a, (∀ w, St G hs w → m.run G.P w = .ok a w) ∧ K a := by
  induction m with
  | pure a => intro hs K h; exact ⟨a, fun _ _ => rfl, h⟩
  | load m a k ih =>
    intro hs K h
    obtain ⟨v, hv, h⟩ := h
    obtain ⟨a', hr, h'⟩ := ih v hs K h
    exact ⟨a', fun w hw => by simp only [Sem.run, hv w hw]; exact hr w hw, h'⟩
  | shape r k ih =>
    intro hs K h
    obtain ⟨e, he, rfl, h⟩ := h
    obtain ⟨a', hr, h'⟩ := ih _ hs K h
    exact ⟨a', fun w hw => by simp only [Sem.run, World.shape?, hw.own e he]; simpa using hr w hw, h'⟩
  | program k ih => intro hs K h; exact ih _ hs K h
  | mark m k ih => intro hs K h; exact ih hs K h
  | _ => intro hs K h; exact h.elim

theorem qvc_bind {α β : Type} (m : Sem α) (f : α → Sem β) : ∀ (hs : Hp) (K : β → Prop), qvc G m hs (fun a => qvc G (f a) hs K) → qvc G (m.bind f) hs K := by
  induction m with
  | pure a => intro hs K h; exact h
  | load m a k ih => intro hs K h; obtain ⟨v, hv, h⟩ := h; exact ⟨v, hv, ih v hs K h⟩
  | shape r k ih => intro hs K h; obtain ⟨e, he, hr, h⟩ := h; exact ⟨e, he, hr, ih _ hs K h⟩
  | program k ih => intro hs K h; exact ih _ hs K h
  | mark m k ih => intro hs K h; exact ih hs K h
  | _ => intro hs K h; exact h.elim

theorem svc_of_qvc {α : Type} (m : Sem α) : ∀ (hs : Hp) (K : α → Prop), qvc G m hs K → svc G m hs (fun a hs' => K a ∧ hs' = hs) := by
  induction m with
  | pure a => intro hs K h; exact ⟨h, rfl⟩
  | load m a k ih => intro hs K h; obtain ⟨v, hv, h⟩ := h; exact ⟨v, hv, ih v hs K h⟩
  | shape r k ih => intro hs K h; obtain ⟨e, he, hr, h⟩ := h; exact ⟨e, he, hr, ih _ hs K h⟩
  | program k ih => intro hs K h; exact ih _ hs K h
  | mark m k ih => intro hs K h; exact ih hs K h
  | _ => intro hs K h; exact h.elim
end
section
set_option linter.unusedVariables false
variable {G : Cx}

/-! ### 1. What is asked -/
structure Need (p k : Prop) : Prop where mk ::
  h : p
  k : k
structure Split (p : Prop) (k : Bool → Prop) : Prop where mk ::
  yes : p → k true
  no : ¬ p → k false
inductive Pick {α : Type} (p : α → Prop) (k : α → Prop) : Prop
  | mk (x : α) (h : p x) (hk : k x)
structure Any {α : Type} (k : α → Prop) : Prop where mk ::
  out : ∀ x, k x
theorem Need.out {p k : Prop} (h : Need p k) : p ∧ k := ⟨h.h, h.k⟩
theorem Split.out {p : Prop} {k : Bool → Prop} (h : Split p k) : (p → k true) ∧ (¬ p → k false) := ⟨h.yes, h.no⟩
theorem Split.dec {p : Prop} [Decidable p] {k : Bool → Prop} (h : Split p k) : k (decide p) := by
  by_cases hp : p
  · simpa [hp] using h.out.1 hp
  · simpa [hp] using h.out.2 hp
theorem Pick.out {α : Type} {p k : α → Prop} (h : Pick p k) : ∃ x, p x ∧ k x := by cases h with | mk x h hk => exact ⟨x, h, hk⟩

/-! ### 2. The types -/
inductive TyD where
  | int (k : IntKind) | bool | str | ptr (e : Nat) | slice (e : Nat) | arr (n e : Nat) | struct (fs : List (Nat × Nat)) | func | iface | other
structure TyI where
  d : TyD
  size : Nat
  bytes : Nat
  zero : List Value
  agg : Bool
structure Tab where
  ts : List (Nat × TyI)
  nf : Nat
  eqs : List (Nat × Nat) := []
  no : List Nat := []
def outN : List Nat → Nat → Bool
  | [], _ => true
  | j :: r, n => match Nat.beq j n with
    | true => false
    | false => outN r n
def Tab.has (T : Tab) (n : Nat) : Bool := match Nat.blt n T.nf with
  | true => match Nat.blt 1 n with
    | true => outN T.no n
    | false => false
  | false => false
def look : List (Nat × TyI) → Nat → Option TyI
  | [], _ => none
  | (j, i) :: r, t => match Nat.beq j t with
    | true => some i
    | false => look r t
def zeroOf (i : TyI) : Value := match i.agg, i.zero with
  | true, l => .agg l.toArray
  | false, v :: _ => v
  | false, [] => undef
def descOk (P : Program) (t : Nat) : TyD → Prop
  | .int k => P.underlying t = some (.int k)
  | .bool => P.underlying t = some .bool
  | .str => P.underlying t = some .string
  | .ptr e => P.underlying t = some (.pointer e)
  | .slice e => P.underlying t = some (.slice e)
  | .arr n e => P.underlying t = some (.array n e)
  | .struct fs => ∃ a : Array Field, P.underlying t = some (.struct a) ∧ a.toList.map (fun f => (f.offset, f.type)) = fs ∧ a.toList.all (fun f => (P.info? f.type).isSome) = true
  | .func => ∃ a b c, P.underlying t = some (.func a b c)
  | .iface => ∃ a, P.underlying t = some (.interface a)
  | .other => True
def aggD : TyD → Bool
  | .arr _ _ | .struct _ => true
  | _ => false
structure TyOK (P : Program) (t : Nat) (i : TyI) : Prop where
  info : (P.info? t).map (fun x => (x.size, x.bytes, x.zero)) = some (i.size, i.bytes, some (zeroOf i))
  desc : descOk P t i.d
  agg : i.agg = aggD i.d
  known : (match i.d with | .other => false | _ => true) = true
  zlen : i.zero.length = i.size
  zone : i.agg = false → ∃ v, i.zero = [v] ∧ v.cells = #[v]
def callable (P : Program) (f : Nat) : Prop :=
  ∃ fn, P.funcs[f]? = some fn ∧ (fn.name == "runtime.NumGoroutine") = false ∧ fn.body.isNone = false
def eqLook : List (Nat × Nat) → Nat → Option Nat
  | [], _ => none
  | (j, n) :: r, t => match Nat.beq j t with
    | true => some n
    | false => eqLook r t
def fieldsB (P : Program) : List Field → Nat → Bool
  | [], _ => true
  | f :: r, i => (f.name != "_") && (f.offset == i) && (match P.underlying f.type with | some (.int _) => true | _ => false) && fieldsB P r (i + 1)
structure EqOK (P : Program) (t n : Nat) : Prop where
  desc : P.underlying t = some (.struct (P.fieldsOf t))
  stood : P.stoodInHeld t = false
  guard : P.eqGuardType P.depth t = false
  fields : fieldsB P (P.fieldsOf t).toList 0 = true
  len : (P.fieldsOf t).toList.length = n
structure TabOK (P : Program) (T : Tab) : Prop where
  eqs : ∀ t n, eqLook T.eqs t = some n → EqOK P t n
  ts : ∀ t i, look T.ts t = some i → TyOK P t i
  fns : ∀ f, T.has f = true → callable P f
  mixed : P.follows .mixedOrders = true

section reads
variable {hs : Hp} {T : Tab} {t : Nat} {i : TyI}
theorem q_program {K : Program → Prop} (h : K G.P) : qvc G program hs K := h
theorem q_underlying {d : TypeDesc} {K : TypeDesc → Prop} (hd : G.P.underlying t = some d) (h : K d) : qvc G (underlying t) hs K := by
  simp only [underlying, program, bind, Sem.bind, qvc, hd]
  exact h
theorem q_typeInfo {x : TypeInfo} {K : TypeInfo → Prop} (hx : G.P.info? t = some x) (h : K x) : qvc G (typeInfo t) hs K := by
  simp only [typeInfo, program, bind, Sem.bind, qvc, hx]
  exact h
theorem TyOK.look {P : Program} (hi : TyOK P t i) : ∃ x, P.info? t = some x ∧ x.size = i.size ∧ x.bytes = i.bytes ∧ x.zero = some (zeroOf i) := by
  have := hi.info
  obtain ⟨x, hx, he⟩ := Option.map_eq_some_iff.1 this
  simp only [Prod.mk.injEq] at he
  exact ⟨x, hx, he⟩
theorem q_sizeOf {K : Nat → Prop} (hi : TyOK G.P t i) (h : K i.size) : qvc G (sizeOf t) hs K := by
  obtain ⟨x, hx, h1, h2, h3⟩ := hi.look
  exact qvc_bind _ _ _ _ (q_typeInfo hx (by rw [h1]; exact h))
theorem q_zeroValue {K : Value → Prop} (hi : TyOK G.P t i) (h : K (zeroOf i)) : qvc G (zeroValue t) hs K := by
  obtain ⟨x, hx, h1, h2, h3⟩ := hi.look
  refine qvc_bind _ _ _ _ (q_typeInfo hx ?_)
  simp only [h3]
  exact h
theorem q_isAgg {K : Bool → Prop} (hi : TyOK G.P t i) (h : K i.agg) : qvc G (isAgg t) hs K := by
  have hd := hi.desc
  have ha := hi.agg
  have hk := hi.known
  unfold isAgg
  cases hdd : i.d <;> simp only [hdd, descOk, aggD] at hd ha hk <;> rw [ha] at h
  case struct fs => obtain ⟨a, hu, _⟩ := hd; exact qvc_bind _ _ _ _ (q_underlying hu h)
  case func => obtain ⟨a, b, c, hu⟩ := hd; exact qvc_bind _ _ _ _ (q_underlying hu h)
  case iface => obtain ⟨a, hu⟩ := hd; exact qvc_bind _ _ _ _ (q_underlying hu h)
  case other => cases hk
  all_goals exact qvc_bind _ _ _ _ (q_underlying hd h)
theorem q_load {a : Addr} {v : Value} {K : Value → Prop} (hv : G.cellIs hs a v) (h : K v) : qvc G (load a) hs K := ⟨v, hv, h⟩
theorem q_loadCellsFrom (a : Addr) : ∀ (vs : List Value) (i : Nat) (acc : Array Value) (K : Array Value → Prop),
    (∀ j v, vs[j]? = some v → G.cellIs hs (a.add (i + j)) v) → K (acc ++ vs.toArray) → qvc G (loadCellsFrom a i vs.length acc) hs K
  | [], i, acc, K, _, h => by
    have h' : K acc := by simpa using h
    exact h'
  | v :: vs, i, acc, K, hc, h => by
    simp only [List.length_cons, loadCellsFrom]
    refine qvc_bind _ _ _ _ (q_load (hc 0 v rfl) ?_)
    refine q_loadCellsFrom a vs (i + 1) (acc.push v) K (fun j u hj => ?_) ?_
    · have := hc (j + 1) u hj
      rwa [show i + (j + 1) = i + 1 + j by omega] at this
    · have e : acc ++ (v :: vs).toArray = acc.push v ++ vs.toArray := by
        apply Array.ext'
        simp
      rw [← e]; exact h
theorem q_loadCells {a : Addr} {vs : List Value} {n : Nat} {K : Array Value → Prop} (hn : vs.length = n) (hc : G.cellsAre hs a vs) (h : K vs.toArray) : qvc G (loadCells a n) hs K := by
  subst hn
  refine q_loadCellsFrom a vs 0 #[] K (fun j v hj => by rw [Nat.zero_add]; exact hc j v hj) ?_
  have e : (#[] ++ vs.toArray : Array Value) = vs.toArray := by simp
  rw [e]; exact h
end reads

/-! ### 3. The frame -/
abbrev Env := List (Nat × Value)
def lk : Env → Nat → Option Value
  | [], _ => none
  | (j, v) :: r, i => match Nat.beq j i with
    | true => some v
    | false => lk r i
def ev (env : Env) : Operand → Option Value
  | .tmp i => lk env i
  | .const v => some v
  | .global g => some (.pointer (some ⟨g, 0, none⟩))
  | .func f => some (.func (.func f) #[] #[])
def evK (env : Env) (x : Operand) (K : Value → Prop) : Prop := match ev env x with
  | some v => K v
  | none => False
def evAllK (env : Env) : List Operand → (List Value → Prop) → Prop
  | [], K => K []
  | x :: r, K => evK env x fun v => evAllK env r fun vs => K (v :: vs)
def evOptK (env : Env) : Option Operand → (Option Value → Prop) → Prop
  | none, K => K none
  | some x, K => evK env x fun v => K (some v)
/-- The operands' values as the machine has them. -/
def Agrees (ρ : Operand → Value) (env : Env) : Prop := ∀ x v, ev env x = some v → ρ x = v

theorem evK_out {env : Env} {x : Operand} {K : Value → Prop} {ρ : Operand → Value} (hρ : Agrees ρ env) (h : evK env x K) : K (ρ x) := by
  unfold evK at h
  cases he : ev env x with
  | none => rw [he] at h; exact h.elim
  | some v => rw [he] at h; rw [hρ x v he]; exact h
theorem evAllK_out {env : Env} {ρ : Operand → Value} (hρ : Agrees ρ env) : ∀ (l : List Operand) (K : List Value → Prop), evAllK env l K → K (l.map ρ)
  | [], K, h => h
  | x :: r, K, h => evAllK_out hρ r _ (evK_out hρ h)
theorem evOptK_out {env : Env} {ρ : Operand → Value} (hρ : Agrees ρ env) : ∀ (x : Option Operand) (K : Option Value → Prop), evOptK env x K → K (x.map ρ)
  | none, _, h => h
  | some _, _, h => evK_out hρ h

/-! ### 4. Numbers -/
def bitsOf (op : BinOp) (k : IntKind) (x y : Int) : Int :=
  let a := BitVec.ofInt k.bits x
  let b := BitVec.ofInt k.bits y
  match op with
  | .and => k.wrap (a &&& b).toNat
  | .or => k.wrap (a ||| b).toNat
  | .xor => k.wrap (a ^^^ b).toNat
  | _ => k.wrap (a &&& ~~~b).toNat
def shlOf (k : IntKind) (x y : Int) : Int := k.wrap (x * 2 ^ (min y.toNat k.bits))
def shrOf (k : IntKind) (x y : Int) : Int := x.fdiv (2 ^ (min y.toNat k.bits))
def wrapK (k : IntKind) (x : Int) (K : Value → Prop) : Prop := Pick (fun r => r = k.wrap x) fun r => K (.int k r)
def notK (K : Value → Prop) : Bool → Prop
  | true => K (.bool false)
  | false => K (.bool true)
def yesK (K : Value → Prop) : Bool → Prop
  | true => K (.bool true)
  | false => K (.bool false)
def intK (op : BinOp) (k : IntKind) (m n : Int) (K : Value → Prop) : Prop := match op with
  | .add => wrapK k (m + n) K
  | .sub => wrapK k (m - n) K
  | .mul => wrapK k (m * n) K
  | .quo => Need (n ≠ 0) (wrapK k (m.tdiv n) K)
  | .rem => Need (n ≠ 0) (Pick (fun r => r = m.tmod n) fun r => K (.int k r))
  | .and => Pick (fun r => r = bitsOf .and k m n) fun r => K (.int k r)
  | .or => Pick (fun r => r = bitsOf .or k m n) fun r => K (.int k r)
  | .xor => Pick (fun r => r = bitsOf .xor k m n) fun r => K (.int k r)
  | .andNot => Pick (fun r => r = bitsOf .andNot k m n) fun r => K (.int k r)
  | .eql => Split (m = n) (yesK K)
  | .neq => Split (m = n) (notK K)
  | .lss => Split (m < n) (yesK K)
  | .leq => Split (m ≤ n) (yesK K)
  | .gtr => Split (n < m) (yesK K)
  | .geq => Split (n ≤ m) (yesK K)
  | _ => False
def shiftK (op : BinOp) (k : IntKind) (m n : Int) (K : Value → Prop) : Prop := match op with
  | .shl => Need (0 ≤ n) (Pick (fun r => r = shlOf k m n) fun r => K (.int k r))
  | .shr => Need (0 ≤ n) (Pick (fun r => r = shrOf k m n) fun r => K (.int k r))
  | _ => False
def isShift : BinOp → Bool
  | .shl | .shr => true
  | _ => false
def kindEq (k k' : IntKind) : Bool := match decEq k k' with
  | isTrue _ => true
  | isFalse _ => false
def boolK (op : BinOp) (a b : Bool) (K : Value → Prop) : Prop := match op, a, b with
  | .eql, true, true => K (.bool true)
  | .eql, false, false => K (.bool true)
  | .eql, true, false => K (.bool false)
  | .eql, false, true => K (.bool false)
  | .neq, true, true => K (.bool false)
  | .neq, false, false => K (.bool false)
  | .neq, true, false => K (.bool true)
  | .neq, false, true => K (.bool true)
  | _, _, _ => False
def ptrK (op : BinOp) (a b : Option Addr) (K : Value → Prop) : Prop := match op, a, b with
  | .eql, none, none => K (.bool true)
  | .eql, some _, none => K (.bool false)
  | .eql, none, some _ => K (.bool false)
  | .neq, none, none => K (.bool false)
  | .neq, some _, none => K (.bool true)
  | .neq, none, some _ => K (.bool true)
  | _, _, _ => False
def strK (op : BinOp) (a b : ByteArray) (K : Value → Prop) : Prop := match op with
  | .eql => Split (a.toList = b.toList) (yesK K)
  | .neq => Split (a.toList = b.toList) (notK K)
  | _ => False
/-- A struct of numbers alone, held against another: one field behind another. -/
def numsOf : List Value → Option (List Int)
  | [] => some []
  | .int _ n :: r => (numsOf r).map (n :: ·)
  | _ => none
end
section
set_option linter.unusedVariables false
variable {G : Cx}

def binK (op : BinOp) (vx vy : Value) (K : Value → Prop) : Prop := match vx, vy with
  | .int k m, .int k' n => match isShift op with
    | true => shiftK op k m n K
    | false => match kindEq k k' with
      | true => intK op k m n K
      | false => False
  | .string a, .string b => strK op a b K
  | _, _ => False
/-- Operands of a type that is no number's and no text's. -/
def eqK (T : Tab) (t : Nat) (op : BinOp) (vx vy : Value) (K : Value → Prop) : Prop := match look T.ts t with
  | some i => match i.d, vx, vy with
    | .bool, .bool a, .bool b => boolK op a b K
    | .ptr _, .pointer a, .pointer b => ptrK op a b K
    | .slice _, .slice a _ _, .slice none _ _ => ptrK op a none K
    | _, _, _ => False
  | none => False
def binopK (T : Tab) (t : Nat) (op : BinOp) (vx vy : Value) (K : Value → Prop) : Prop := match vx with
  | .int _ _ => binK op vx vy K
  | .string _ => binK op vx vy K
  | _ => eqK T t op vx vy K
/-- A comparison with the literal nil, of an interface's type. -/
def isNilC : Operand → Bool
  | .const v => match v with
    | .nilIface => true
    | _ => false
  | _ => false
def nilK (T : Tab) (t : Nat) (op : BinOp) (vx : Value) (K : Value → Prop) : Prop := match look T.ts t with
  | some i => match i.d with
    | .iface => match vx with
      | .nilIface => match op with
        | .eql => K (.bool true)
        | .neq => K (.bool false)
        | _ => False
      | .iface _ _ => match op with
        | .eql => K (.bool false)
        | .neq => K (.bool true)
        | _ => False
      | _ => False
    | _ => False
  | none => False
def mkIfaceK (T : Tab) (t : Nat) (v : Value) (K : Value → Prop) : Prop := match look T.ts t with
  | some i => match i.d with
    | .iface => False
    | .other => False
    | _ => K (.iface t v)
  | none => False
def unK (op : UnOp) (v : Value) (K : Value → Prop) : Prop := match op, v with
  | .not, .bool true => K (.bool false)
  | .not, .bool false => K (.bool true)
  | .neg, .int k n => wrapK k (0 - n) K
  | .xor, .int k n => Pick (fun r => r = bitsOf .xor k (match k.signed with | true => -1 | false => k.max) n) fun r => K (.int k r)
  | _, _ => False
def nth : List (Nat × Nat) → Nat → Option (Nat × Nat)
  | [], _ => none
  | x :: _, 0 => some x
  | _ :: r, n + 1 => nth r n
/-- A field's place and size. -/
def fieldK (T : Tab) (t f : Nat) (K : Nat → Nat → Nat → Prop) : Prop := match look T.ts t with
  | some i => match i.d with
    | .struct fs => match nth fs f with
      | some (off, ft) => match look T.ts ft with
        | some j => match j.size with
          | 0 => False
          | n + 1 => K off (n + 1) ft
        | none => False
      | none => False
    | _ => False
  | none => False
def moved (a : Addr) (off : Nat) : Addr := match off with
  | 0 => a
  | n + 1 => ⟨a.block, a.off + (n + 1), none⟩
theorem moved_eq (a : Addr) (off : Nat) : a.add off = moved a off := by
  cases off <;> simp [Addr.add, moved]
/-- An element's place: the base, the length, the element's size. -/
def rowK (T : Tab) (t : Nat) (v : Value) (K : Option Addr → Nat → Nat → Prop) : Prop := match look T.ts t with
  | some i => match i.d, v with
    | .arr n e, .pointer (some a) => match n with
      | 0 => False
      | 1 => False
      | _ + 2 => match look T.ts e with
        | some j => K (some a) n j.size
        | none => False
    | .slice e, .slice a n _ => match look T.ts e with
      | some j => K a n j.size
      | none => False
    | _, _ => False
  | none => False
def loadK (G : Cx) (T : Tab) (hs : Hp) (t : Nat) (a : Addr) (K : Value → Prop) : Prop := match look T.ts t with
  | some i => match i.agg with
    | false => Pick (G.cellIs hs a) K
    | true => Pick (fun cs : List Value => cs.length = i.size ∧ G.cellsAre hs a cs) fun cs => K (.agg cs.toArray)
  | none => False
def vnth : List Value → Nat → Option Value
  | [], _ => none
  | x :: _, 0 => some x
  | _ :: r, n + 1 => vnth r n
theorem vnth_eq : ∀ (l : List Value) (n : Nat), l[n]? = vnth l n
  | [], _ => rfl
  | _ :: _, 0 => rfl
  | _ :: r, n + 1 => by simpa [vnth] using vnth_eq r n
def optK (o : Option Value) (K : Value → Prop) : Prop := match o with
  | some v => K v
  | none => False
/-- A bound of a slice expression: a number from 0 to a greatest. -/
def boundK (x : Option Value) (dflt most : Nat) (K : Nat → Prop) : Prop := match x with
  | none => K dflt
  | some (.int _ i) => Need (0 ≤ i ∧ i ≤ (most : Int)) (K i.toNat)
  | some _ => False
/-- What is cut out of a row: where it begins matters only if there is something. -/
def cutK (a : Option Addr) (size l h m : Nat) (K : Value → Prop) : Prop := K (.slice (if m = l then a else a.map (·.add (l * size))) (h - l) (m - l))
def sliceK (T : Tab) (t : Nat) (v : Value) (lo hi mx : Option Value) (K : Value → Prop) : Prop := match look T.ts t with
  | some i => match i.d, v with
    | .slice e, .slice a len cap => match look T.ts e with
      | some j => boundK mx cap cap fun m => match hi, mx with
        | some _, _ => boundK hi len m fun h => boundK lo 0 h fun l => cutK a j.size l h m K
        | none, none => boundK lo 0 len fun l => cutK a j.size l len m K
        | none, some _ => False
      | none => False
    | .arr n e, .pointer (some a) => match look T.ts e with
      | some j => boundK mx n n fun m => match hi, mx with
        | some _, _ => boundK hi n m fun h => boundK lo 0 h fun l => cutK (some a) j.size l h m K
        | none, none => boundK lo 0 n fun l => cutK (some a) j.size l n m K
        | none, some _ => False
      | none => False
    | .str, .string s => match mx with
      | none => match hi with
        | some _ => boundK hi s.size s.size fun h => boundK lo 0 h fun l => K (.string (s.extract l h))
        | none => boundK lo 0 s.size fun l => K (.string (s.extract l s.size))
      | some _ => False
    | _, _ => False
  | none => False
def bytesOf (xs : List Int) : List Value := xs.map fun x => .int .u8 x
def strOf (xs : List Int) : ByteArray := ⟨(xs.map fun x => UInt8.ofNat x.toNat).toArray⟩
def convK (G : Cx) (T : Tab) (hs : Hp) (s d : Nat) (v : Value) (K : Value → Prop) : Prop := match look T.ts s, look T.ts d with
  | some i, some j => match i.d, j.d, v with
    | .int _, .int k, .int _ n => wrapK k n K
    | .str, .str, .string x => K (.string x)
    | .slice e, .str, .slice a n _ => match look T.ts e with
      | some q => match q.d with
        | .int .u8 => Pick (fun xs : List Int => xs.length = n ∧ (0 < n → ∃ ad, a = some ad ∧ G.cellsAre hs ad (bytesOf xs))) fun xs => K (.string (strOf xs))
        | _ => False
      | none => False
    | _, _, _ => False
  | _, _ => False
def minK (K : Value → Prop) (v w : Value) : Prop := match v, w with
  | .int k x, .int k' y => match kindEq k k' with
    | true => K (.int k (min x y))
    | false => False
  | _, _ => False
def maxK (K : Value → Prop) (v w : Value) : Prop := match v, w with
  | .int k x, .int k' y => match kindEq k k' with
    | true => K (.int k (max x y))
    | false => False
  | _, _ => False
def lenK (T : Tab) (t : Nat) (v : Value) (K : Value → Prop) : Prop := match look T.ts t with
  | some i => match i.d, v with
    | .str, .string s => K (.int .i64 s.size)
    | .slice _, .slice _ n _ => K (.int .i64 n)
    | .arr n _, _ => K (.int .i64 n)
    | _, _ => False
  | none => False
def quietCallK (T : Tab) (b : Builtin) (ts : List Nat) (vs : List Value) (K : Value → Prop) : Prop := match b, ts, vs with
  | .len, t :: _, v :: _ => lenK T t v K
  | .min, _, [v, w] => minK K v w
  | .max, _, [v, w] => maxK K v w
  | _, _, _ => False
/-- A struct's fields or an array's elements laid into a value. -/
def setL : List Value → Nat → Value → List Value
  | [], _, _ => []
  | _ :: r, 0, v => v :: r
  | x :: r, n + 1, v => x :: setL r n v
def setK : List Value → Nat → Value → (List Value → Prop) → Prop
  | [], _, _, K => K []
  | _ :: r, 0, v, K => K (v :: r)
  | x :: r, n + 1, v, K => setK r n v fun r' => K (x :: r')
theorem setK_out {v : Value} : ∀ (l : List Value) (n : Nat) (K : List Value → Prop), setK l n v K → K (l.set n v)
  | [], _, _, h => h
  | _ :: _, 0, _, h => h
  | _ :: r, n + 1, K, h => setK_out r n _ h
/-- Several cells laid at a place, one behind another. -/
def layK (K : List Value → Prop) : List Value → List Value → Nat → Prop
  | l, [], _ => K l
  | l, v :: vs, n => setK l n v fun l' => layK K l' vs (n + 1)
def cellsL : Value → List Value
  | .agg cs => cs.toList
  | v => [v]
def partsK (place : Nat → (Nat → Nat → Prop) → Prop) (K : List Value → Prop) : List Value → List (Nat × Value) → Prop
  | l, [] => K l
  | l, (i, v) :: r => place i fun off size => Need ((cellsL v).length = size ∧ off + size ≤ l.length) (layK (fun l' => partsK place K l' r) l (cellsL v) off)
def evPartsK (env : Env) : List (Nat × Operand) → (List (Nat × Value) → Prop) → Prop
  | [], K => K []
  | (i, x) :: r, K => evK env x fun v => evPartsK env r fun vs => K ((i, v) :: vs)
def buildK (T : Tab) (t : Nat) (parts : List (Nat × Value)) (K : Value → Prop) : Prop := match look T.ts t with
  | some i => match i.d with
    | .struct fs => partsK (fun n k => match nth fs n with
        | some (off, ft) => match look T.ts ft with
          | some j => k off j.size
          | none => False
        | none => False) (fun l => K (.agg l.toArray)) i.zero parts
    | .arr n e => match look T.ts e with
      | some j => partsK (fun q k => k (q * j.size) j.size) (fun l => K (.agg l.toArray)) i.zero parts
      | none => False
    | _ => False
  | none => False

/-- The operations that only read. -/
def pvc (G : Cx) (T : Tab) (hs : Hp) (env : Env) (op : Op) (K : Value → Prop) : Prop := match op with
  | .move x => evK env x K
  | .assign x => evK env x K
  | .pick c a b => evK env c fun
    | .bool true => evK env a K
    | .bool false => evK env b K
    | _ => False
  | .binOp op t x y _ => match isNilC y with
    | true => evK env x fun vx => nilK T t op vx K
    | false => evK env x fun vx => evK env y fun vy => binopK T t op vx vy K
  | .makeInterface t x => evK env x fun v => mkIfaceK T t v K
  | .unOp op _ x => evK env x fun v => unK op v K
  | .nilCheck x => evK env x fun
    | .pointer (some a) => K (.pointer (some a))
    | _ => False
  | .fieldAddr s x f => evK env x fun
    | .pointer (some a) => fieldK T s f fun off _ _ => K (.pointer (some (moved a off)))
    | _ => False
  | .field s x f => evK env x fun
    | .agg cs => fieldK T s f fun off _ ft => match look T.ts ft with
      | some j => match j.agg with
        | false => optK (vnth cs.toList off) K
        | true => False
      | none => False
    | _ => False
  | .indexAddr t x i => evK env x fun v => evK env i fun
    | .int _ n => rowK T t v fun a len size => Need (0 ≤ n ∧ n < (len : Int)) (match a with
      | some a => K (.pointer (some (a.add (n.toNat * size))))
      | none => False)
    | _ => False
  | .index t x i => evK env x fun v => evK env i fun
    | .int _ n => match v with
      | .string s => match look T.ts t with
        | some q => match q.d with
          | .str => Need (0 ≤ n ∧ n < (s.size : Int)) (K (.int .u8 (s.data.toList.getD n.toNat 0).toNat))
          | _ => False
        | none => False
      | .agg cs => match look T.ts t with
        | some q => match q.d with
          | .arr len e => match look T.ts e with
            | some j => match j.agg with
              | false => Need (0 ≤ n ∧ n < (len : Int)) (optK (vnth cs.toList (n.toNat * j.size)) K)
              | true => False
            | none => False
          | _ => False
        | none => False
      | _ => False
    | _ => False
  | .load t x => evK env x fun
    | .pointer (some a) => loadK G T hs t a K
    | _ => False
  | .extract x i => evK env x fun
    | .tuple vs => optK (vnth vs.toList i) K
    | _ => False
  | .convert s d x => evK env x fun v => convK G T hs s d v K
  | .slice t x lo hi mx => evK env x fun v => evOptK env lo fun lo => evOptK env hi fun hi => evOptK env mx fun mx => sliceK T t v lo hi mx K
  | .sliceToArrayPointer t x => evK env x fun
    | .slice a n _ => match look T.ts t with
      | some i => match i.d with
        | .arr len _ => Need (len ≤ n) (K (.pointer a))
        | _ => False
      | none => False
    | _ => False
  | .makeFunc fn first captured => evAllK env first.toList fun f => evAllK env captured.toList fun c => K (.func fn f.toArray c.toArray)
  | .build t parts => evPartsK env parts.toList fun vs => buildK T t vs K
  | .call c => match c.callee with
    | .builtin b => evAllK env c.args.toList fun vs => quietCallK T b c.argTypes.toList vs K
    | _ => False
  | _ => False
end
section
set_option linter.unusedVariables false
set_option linter.unusedSimpArgs false
variable {G : Cx} {hs : Hp} {T : Tab} {env : Env} {ρ : Operand → Value} {K : Value → Prop}

/-- A value that the machine puts into its slot. -/
def Yes (K : Value → Prop) : Next → Prop := fun nx => ∃ v, nx = .value v ∧ K v
theorem q_value {m : Sem Value} (h : qvc G m hs K) : qvc G (do pure (Next.value (← m))) hs (Yes K) := by
  refine qvc_bind _ _ _ _ ?_
  have h2 : ∀ {α : Type} (m : Sem α) (K K' : α → Prop), (∀ a, K a → K' a) → qvc G m hs K → qvc G m hs K' := by
    intro α m
    induction m with
    | pure a => intro K K' hk h; exact hk _ h
    | load m a k ih => intro K K' hk h; obtain ⟨v, hv, h⟩ := h; exact ⟨v, hv, ih v K K' hk h⟩
    | shape r k ih => intro K K' hk h; obtain ⟨e, he, hr, h⟩ := h; exact ⟨e, he, hr, ih _ K K' hk h⟩
    | program k ih => intro K K' hk h; exact ih _ K K' hk h
    | mark m k ih => intro K K' hk h; exact ih K K' hk h
    | _ => intro K K' hk h; exact h.elim
  exact h2 m K _ (fun a ha => ⟨a, rfl, ha⟩) h

theorem look_desc {P : Program} (hT : TabOK P T) {t : Nat} {i : TyI} (h : look T.ts t = some i) : descOk P t i.d := (hT.ts t i h).desc

theorem q_wrap {k : IntKind} {x : Int} (h : wrapK k x K) : qvc G (pure (Value.int k (k.wrap x)) : Sem Value) hs K := by
  obtain ⟨r, rfl, hk⟩ := h.out
  exact hk
theorem bool_of {p : Prop} [Decidable p] {K : Bool → Prop} (h : Split p K) : K (decide p) := h.dec
theorem yes_bool {b : Bool} (h : yesK K b) : K (.bool b) := by cases b <;> exact h
theorem not_bool {b : Bool} (h : notK K b) : K (.bool (!b)) := by cases b <;> exact h
theorem kindEq_out {k k' : IntKind} (h : kindEq k k' = true) : k = k' := by
  unfold kindEq at h
  split at h
  · assumption
  · cases h

theorem q_intK {op : BinOp} {k : IntKind} {m n : Int} (hs' : isShift op = false) (h : intK op k m n K) (t : Nat) :
    qvc G (binOp op t (.int k m) (.int k n)) hs K := by
  cases op <;> simp only [isShift] at hs' <;> first | (exact absurd hs' (by decide)) | skip
  all_goals (simp only [intK] at h; simp only [binOp, ne_eq, not_true_eq_false, if_false, Op.intArith, Op.intDiv, Op.intBits, Op.intCmp, ite_false])
  case add => exact q_wrap h
  case sub => exact q_wrap h
  case mul => exact q_wrap h
  case quo => obtain ⟨h0, h⟩ := h.out; rw [if_neg h0]; exact q_wrap h
  case rem => obtain ⟨h0, h⟩ := h.out; rw [if_neg h0]; obtain ⟨r, rfl, h⟩ := h.out; exact h
  case and => obtain ⟨r, rfl, h⟩ := h.out; exact h
  case or => obtain ⟨r, rfl, h⟩ := h.out; exact h
  case xor => obtain ⟨r, rfl, h⟩ := h.out; exact h
  case andNot => obtain ⟨r, rfl, h⟩ := h.out; exact h
  case eql => have := yes_bool (h.dec); show K _; rwa [show (m == n) = decide (m = n) from rfl]
  case neq => have := not_bool (h.dec); show K _; rwa [show (m != n) = !decide (m = n) from rfl]
  case lss => exact yes_bool (h.dec)
  case leq => exact yes_bool (h.dec)
  case gtr => exact yes_bool (h.dec)
  case geq => exact yes_bool (h.dec)
theorem q_shiftK {op : BinOp} {k k' : IntKind} {m n : Int} (hs' : isShift op = true) (h : shiftK op k m n K) (t : Nat) :
    qvc G (binOp op t (.int k m) (.int k' n)) hs K := by
  cases op <;> simp only [isShift] at hs' <;> first | (exact absurd hs' (by decide)) | skip
  case shl =>
    obtain ⟨h0, h⟩ := Need.out h
    obtain ⟨r, rfl, h⟩ := h.out
    simp only [binOp, Op.shift]
    rw [if_neg (by omega)]
    exact h
  case shr =>
    obtain ⟨h0, h⟩ := Need.out h
    obtain ⟨r, rfl, h⟩ := h.out
    simp only [binOp, Op.shift]
    rw [if_neg (by omega)]
    exact h
theorem beq_toList (a b : ByteArray) : (a.toList == b.toList) = decide (a.toList = b.toList) := by
  rw [Bool.eq_iff_iff]; simp
theorem q_strK {op : BinOp} {a b : ByteArray} (h : strK op a b K) (t : Nat) : qvc G (binOp op t (.string a) (.string b)) hs K := by
  cases op <;> simp only [strK] at h <;> first | exact h.elim | skip
  case eql => simp only [binOp, Op.stringOp, beq_toList]; exact yes_bool h.dec
  case neq => simp only [binOp, Op.stringOp, beq_toList]; exact not_bool h.dec
theorem q_eqBool {d t : Nat} {a b : Bool} {Kb : Bool → Prop} (hd : G.P.underlying t = some .bool) (h : Kb (a == b)) : qvc G (Op.equalIn (d + 1) t (.bool a) (.bool b)) hs Kb := by
  simp only [Op.equalIn]
  exact qvc_bind _ _ _ _ (q_underlying hd h)
theorem q_eqPtr {d t e : Nat} {a b : Option Addr} {Kb : Bool → Prop} (hd : G.P.underlying t = some (.pointer e)) (hn : a = none ∨ b = none) (h : Kb (a.isNone && b.isNone)) :
    qvc G (Op.equalIn (d + 1) t (.pointer a) (.pointer b)) hs Kb := by
  simp only [Op.equalIn]
  refine qvc_bind _ _ _ _ (q_underlying hd ?_)
  cases a with
  | none => exact h
  | some a =>
    cases b with
    | none => exact h
    | some b => rcases hn with hn | hn <;> cases hn
theorem q_eqSlice {d t e : Nat} {a : Option Addr} {n c n' c' : Nat} {Kb : Bool → Prop} (hd : G.P.underlying t = some (.slice e)) (h : Kb a.isNone) :
    qvc G (Op.equalIn (d + 1) t (.slice a n c) (.slice none n' c')) hs Kb := by
  simp only [Op.equalIn]
  refine qvc_bind _ _ _ _ (q_underlying hd ?_)
  cases a <;> exact h
theorem q_eqK {t : Nat} {op : BinOp} {x y : Value} (hT : TabOK G.P T) (h : eqK T t op x y K) : qvc G (binOp op t x y) hs K := by
  unfold eqK at h
  cases hl : look T.ts t with
  | none => rw [hl] at h; exact h.elim
  | some i =>
    rw [hl] at h
    dsimp only at h
    have hd := look_desc hT hl
    have key : ∀ {b : Bool} {d : TypeDesc}, G.P.underlying t = some d → (qvc G (Op.equal t x y) hs fun c => c = b) → (op = .eql → K (.bool b)) → (op = .neq → K (.bool (!b))) → (op = .eql ∨ op = .neq) →
        (∀ k n, x ≠ .int k n) → (∀ s, x ≠ .string s) → (∀ k n, x ≠ .float k n) → (∀ k m n, x ≠ .complex k m n) → qvc G (binOp op t x y) hs K := by
      intro b d _ he h1 h2 ho n1 n2 n3 n4
      have hq : ∀ (f : Bool → Value), K (f b) → qvc G (do pure (f (← Op.equal t x y))) hs K := by
        intro f hf
        refine qvc_bind _ _ _ _ ?_
        obtain ⟨c, hc, rfl⟩ := qvc_sound _ _ _ he
        have : ∀ (m : Sem Bool) (K' : Bool → Prop), (qvc G m hs fun c' => c' = c) → K' c → qvc G m hs K' := by
          intro m
          induction m with
          | pure a => intro K' h hk; rw [show a = c from h]; exact hk
          | load m a k ih => intro K' h hk; obtain ⟨v, hv, h⟩ := h; exact ⟨v, hv, ih v K' h hk⟩
          | shape r k ih => intro K' h hk; obtain ⟨e, he, hr, h⟩ := h; exact ⟨e, he, hr, ih _ K' h hk⟩
          | program k ih => intro K' h hk; exact ih _ K' h hk
          | mark m k ih => intro K' h hk; exact ih K' h hk
          | _ => intro K' h; exact h.elim
        exact this _ _ he hf
      rcases ho with rfl | rfl
      · have := hq .bool (h1 rfl)
        cases x <;> first | exact absurd rfl (n1 _ _) | exact absurd rfl (n2 _) | exact absurd rfl (n3 _ _) | exact absurd rfl (n4 _ _ _) | (simp only [binOp]; exact this)
      · have := hq (fun c => .bool (!c)) (h2 rfl)
        cases x <;> first | exact absurd rfl (n1 _ _) | exact absurd rfl (n2 _) | exact absurd rfl (n3 _ _) | exact absurd rfl (n4 _ _ _) | (simp only [binOp]; exact this)
    split at h
    · rename_i a b hdd
      simp only [hdd, descOk] at hd
      refine key (b := a == b) hd (q_eqBool (d := 9999) hd rfl) ?_ ?_ ?_ (by intros; simp) (by intros; simp) (by intros; simp) (by intros; simp)
      · rintro rfl; cases a <;> cases b <;> exact h
      · rintro rfl; cases a <;> cases b <;> exact h
      · cases op <;> first | exact .inl rfl | exact .inr rfl | (cases a <;> cases b <;> exact h.elim)
    · rename_i e a b hdd
      simp only [hdd, descOk] at hd
      have hn : a = none ∨ b = none := by
        cases a with
        | none => exact .inl rfl
        | some a => cases b with
          | none => exact .inr rfl
          | some b => cases op <;> exact h.elim
      refine key (b := a.isNone && b.isNone) hd (q_eqPtr (d := 9999) hd hn rfl) ?_ ?_ ?_ (by intros; simp) (by intros; simp) (by intros; simp) (by intros; simp)
      · rintro rfl; cases a <;> cases b <;> first | exact h | exact h.elim
      · rintro rfl; cases a <;> cases b <;> first | exact h | exact h.elim
      · cases op <;> first | exact .inl rfl | exact .inr rfl | (cases a <;> cases b <;> exact h.elim)
    · rename_i e a n c n' c' hdd
      simp only [hdd, descOk] at hd
      refine key (b := a.isNone) hd (q_eqSlice (d := 9999) hd rfl) ?_ ?_ ?_ (by intros; simp) (by intros; simp) (by intros; simp) (by intros; simp)
      · rintro rfl; cases a <;> exact h
      · rintro rfl; cases a <;> exact h
      · cases op <;> first | exact .inl rfl | exact .inr rfl | (cases a <;> exact h.elim)
    · exact h.elim
end
section
set_option linter.unusedVariables false
set_option linter.unusedSimpArgs false
variable {G : Cx} {hs : Hp} {T : Tab} {env : Env} {ρ : Operand → Value} {K : Value → Prop}

theorem q_unK {op : UnOp} {v : Value} (h : unK op v K) : qvc G (Op.unary op v) hs K := by
  unfold unK at h
  split at h
  · exact h
  · exact h
  · exact q_wrap h
  · rename_i k n
    obtain ⟨r, rfl, h⟩ := h.out
    simp only [Op.unary, Op.intBits]
    cases hk : k.signed <;> simp only [hk] at h ⊢ <;> exact h
  · exact h.elim

theorem q_binop {t : Nat} {op : BinOp} {x y : Operand} {vx vy : Value} (hT : TabOK G.P T) (h : binopK T t op vx vy K) :
    qvc G (do eqGuard op t x y vx vy; binOp op t vx vy) hs K := by
  have hg : qvc G (eqGuard op t x y vx vy) hs (fun _ => True) := by
    unfold eqGuard
    have : vx ≠ .nilIface ∧ (∀ cs, vx ≠ .agg cs) := by
      constructor
      · rintro rfl
        simp only [binopK, eqK] at h
        split at h
        · split at h <;> first | exact h.elim | (rename_i e; cases e)
        · exact h.elim
      · rintro cs rfl
        simp only [binopK, eqK] at h
        split at h
        · split at h <;> first | exact h.elim | (rename_i e; cases e)
        · exact h.elim
    obtain ⟨h1, h2⟩ := this
    cases vx <;> first | exact absurd rfl h1 | exact absurd rfl (h2 _) | (cases op <;> exact trivial)
  have step : ∀ (m : Sem Unit) (f : Unit → Sem Value), qvc G m hs (fun _ => True) → qvc G (f ()) hs K → qvc G (m.bind f) hs K := by
    intro m f h1 h2
    refine qvc_bind _ _ _ _ ?_
    revert h1
    induction m with
    | pure a => intro _; exact h2
    | load m a k ih => rintro ⟨v, hv, h⟩; exact ⟨v, hv, ih v h⟩
    | shape r k ih => rintro ⟨e, he, hr, h⟩; exact ⟨e, he, hr, ih _ h⟩
    | program k ih => intro h; exact ih _ h
    | mark m k ih => intro h; exact ih h
    | _ => intro h; exact h.elim
  refine step _ _ hg ?_
  unfold binopK at h
  split at h
  · rename_i k m
    unfold binK at h
    cases vy <;> simp only at h <;> first | exact h.elim | skip
    split at h
    · exact q_shiftK (by assumption) h t
    · split at h
      · obtain rfl := kindEq_out (by assumption)
        exact q_intK (by assumption) h t
      · exact h.elim
  · unfold binK at h
    cases vy <;> simp only at h <;> first | exact h.elim | exact q_strK h t
  · exact q_eqK hT h

theorem isNilC_out {y : Operand} (h : isNilC y = true) : y = .const .nilIface := by
  cases y with
  | const v => cases v <;> first | rfl | (simp [isNilC] at h)
  | _ => simp [isNilC] at h
theorem q_eqIface {d t : Nat} {ms : Array (String × TypeId)} {vx : Value} {Kb : Bool → Prop} (hd : G.P.underlying t = some (.interface ms)) (h : (vx = .nilIface ∧ Kb true) ∨ (∃ a b, vx = .iface a b ∧ Kb false)) : qvc G (Op.equalIn (d + 1) t vx .nilIface) hs Kb := by
  simp only [Op.equalIn]
  refine qvc_bind _ _ _ _ (q_underlying hd ?_)
  rcases h with ⟨rfl, h⟩ | ⟨a, b, rfl, h⟩
  · exact h
  · exact h
theorem q_nil {t : Nat} {op : BinOp} {x : Operand} {vx : Value} (hT : TabOK G.P T) (h : nilK T t op vx K) : qvc G (do eqGuard op t x (.const .nilIface) vx .nilIface; binOp op t vx .nilIface) hs K := by
  unfold nilK at h
  split at h
  · rename_i i hl
    split at h
    · rename_i hdd
      have hd := look_desc hT hl
      simp only [hdd, descOk] at hd
      obtain ⟨ms, hd⟩ := hd
      have g1 : ∀ op' : BinOp, eqGuard op' t x (.const .nilIface) .nilIface .nilIface = pure () := by
        intro op'
        unfold eqGuard
        cases op' <;> first | rfl | simp
      have g2 : ∀ (op' : BinOp) (a : TypeId) (b : Value), eqGuard op' t x (.const .nilIface) (.iface a b) .nilIface = pure () := by
        intro op' a b
        unfold eqGuard
        cases op' <;> first | rfl | simp
      split at h
      · rw [g1]
        refine qvc_bind _ _ _ _ (show qvc G (pure () : Sem Unit) hs _ from ?_)
        split at h
        · simp only [binOp, Op.equal, Op.maxDepth]
          exact qvc_bind _ _ _ _ (q_eqIface hd (.inl ⟨rfl, h⟩))
        · simp only [binOp, Op.equal, Op.maxDepth]
          exact qvc_bind _ _ _ _ (q_eqIface hd (.inl ⟨rfl, h⟩))
        · exact h.elim
      · rw [g2]
        refine qvc_bind _ _ _ _ (show qvc G (pure () : Sem Unit) hs _ from ?_)
        split at h
        · simp only [binOp, Op.equal, Op.maxDepth]
          exact qvc_bind _ _ _ _ (q_eqIface hd (.inr ⟨_, _, rfl, h⟩))
        · simp only [binOp, Op.equal, Op.maxDepth]
          exact qvc_bind _ _ _ _ (q_eqIface hd (.inr ⟨_, _, rfl, h⟩))
        · exact h.elim
      · exact h.elim
    · exact h.elim
  · exact h.elim
theorem q_mkIface {t : Nat} {v : Value} (hT : TabOK G.P T) (h : mkIfaceK T t v K) : qvc G (Instr.makeInterface t v) hs K := by
  unfold mkIfaceK at h
  split at h
  · rename_i i hl
    have hd := look_desc hT hl
    unfold Instr.makeInterface
    cases hdd : i.d <;> simp only [hdd, descOk] at hd h
    case struct fs => obtain ⟨a, hu, _⟩ := hd; exact qvc_bind _ _ _ _ (q_underlying hu h)
    case func => obtain ⟨a, b, c, hu⟩ := hd; exact qvc_bind _ _ _ _ (q_underlying hu h)
    all_goals exact qvc_bind _ _ _ _ (q_underlying hd h)
  · exact h.elim
theorem q_optK {vs : Array Value} {i : Nat} (h : optK (vnth vs.toList i) K) : qvc G (Instr.extract (.tuple vs) i) hs K := by
  have e : vs[i]? = vnth vs.toList i := by rw [← vnth_eq, Array.getElem?_toList]
  simp only [Instr.extract, e]
  cases hv : vnth vs.toList i with
  | none => rw [hv] at h; exact h.elim
  | some v => rw [hv] at h; exact h

theorem q_loadK {t : Nat} {a : Addr} (hT : TabOK G.P T) (h : loadK G T hs t a K) : qvc G (Instr.loadAt t (.pointer (some a))) hs K := by
  unfold loadK at h
  cases hl : look T.ts t with
  | none => rw [hl] at h; exact h.elim
  | some i =>
    rw [hl] at h
    have hi := hT.ts t i hl
    dsimp only at h
    simp only [Instr.loadAt, Instr.sureAddr, loadVar]
    refine qvc_bind _ _ _ _ ?_
    refine (show qvc G (pure a : Sem Addr) hs _ from ?_)
    refine qvc_bind _ _ _ _ (q_isAgg hi ?_)
    cases ha : i.agg with
    | false =>
      rw [ha] at h
      obtain ⟨v, hv, hk⟩ := h.out
      exact q_load hv hk
    | true =>
      rw [ha] at h
      obtain ⟨cs, ⟨hn, hc⟩, hk⟩ := h.out
      refine qvc_bind _ _ _ _ (q_sizeOf hi ?_)
      exact qvc_bind _ _ _ _ (q_loadCells hn hc hk)

theorem nth_eq : ∀ (l : List (Nat × Nat)) (n : Nat), nth l n = l[n]?
  | [], _ => rfl
  | _ :: _, 0 => rfl
  | _ :: r, n + 1 => by simpa [nth] using nth_eq r n
theorem field_of {fs : List (Nat × Nat)} {a : Array Field} (ha : a.toList.map (fun f => (f.offset, f.type)) = fs) {f off ft : Nat} (hn : nth fs f = some (off, ft)) :
    ∃ x, a[f]? = some x ∧ x.offset = off ∧ x.type = ft := by
  rw [nth_eq, ← ha, List.getElem?_map] at hn
  obtain ⟨x, hx, he⟩ := Option.map_eq_some_iff.1 hn
  simp only [Prod.mk.injEq] at he
  exact ⟨x, by rw [← Array.getElem?_toList]; exact hx, he⟩
theorem q_fieldAddr {t f : Nat} {a : Addr} (hT : TabOK G.P T) (h : fieldK T t f fun off _ _ => K (.pointer (some (moved a off)))) :
    qvc G (Instr.fieldAt t (.pointer (some a)) f) hs K := by
  unfold fieldK at h
  split at h
  · rename_i i hl
    split at h
    · rename_i fs hd
      split at h
      · rename_i off ft hn
        split at h
        · rename_i j hj
          split at h
          · exact h.elim
          · rename_i n hsz
            have hdd := look_desc hT hl
            simp only [hd, descOk] at hdd
            obtain ⟨arr, hu, hm, _⟩ := hdd
            obtain ⟨x, hx, ho, ht⟩ := field_of hm hn
            simp only [Instr.fieldAt]
            refine qvc_bind _ _ _ _ (q_underlying hu ?_)
            simp only [hx]
            refine qvc_bind _ _ _ _ (show qvc G (pure a : Sem Addr) hs _ from ?_)
            refine qvc_bind _ _ _ _ ?_
            unfold fieldPlace
            have hj' := hT.ts ft j hj
            rw [← ht] at hj'
            refine qvc_bind _ _ _ _ (q_sizeOf hj' ?_)
            rw [if_neg (by omega), ho, moved_eq]
            exact h
        · exact h.elim
      · exact h.elim
    · exact h.elim
  · exact h.elim

theorem q_field {t f : Nat} {cs : Array Value} (hT : TabOK G.P T) (h : fieldK T t f fun off _ ft => match look T.ts ft with
      | some j => match j.agg with
        | false => optK (vnth cs.toList off) K
        | true => False
      | none => False) : qvc G (Instr.field t (.agg cs) f) hs K := by
  unfold fieldK at h
  split at h
  · rename_i i hl
    split at h
    · rename_i fs hd
      split at h
      · rename_i off ft hn
        split at h
        · rename_i j hj
          split at h
          · exact h.elim
          · rename_i n hsz
            have hdd := look_desc hT hl
            simp only [hd, descOk] at hdd
            obtain ⟨arr, hu, hm, _⟩ := hdd
            obtain ⟨x, hx, ho, ht⟩ := field_of hm hn
            simp only [Instr.field]
            refine qvc_bind _ _ _ _ (q_underlying hu ?_)
            simp only [hx]
            refine qvc_bind _ _ _ _ (show qvc G (pure cs : Sem (Array Value)) hs _ from ?_)
            have hj' := hT.ts ft j hj
            rw [← ht] at hj'
            rw [hj] at h
            dsimp only at h
            unfold part
            refine qvc_bind _ _ _ _ (q_isAgg hj' ?_)
            cases ha : j.agg with
            | true => rw [ha] at h; exact h.elim
            | false =>
              rw [ha] at h
              have e : cs[x.offset]? = vnth cs.toList off := by rw [← vnth_eq, Array.getElem?_toList, ho]
              simp only [e]
              cases hv : vnth cs.toList off with
              | none => rw [hv] at h; exact h.elim
              | some v => rw [hv] at h; exact h
        · exact h.elim
      · exact h.elim
    · exact h.elim
  · exact h.elim
theorem q_index {t : Nat} {v : Value} {k : IntKind} {n : Int} (hT : TabOK G.P T)
    (h : rowK T t v fun a len size => Need (0 ≤ n ∧ n < (len : Int)) (match a with | some a => K (.pointer (some (a.add (n.toNat * size)))) | none => False)) :
    qvc G (Instr.indexAt t v (.int k n)) hs K := by
  unfold rowK at h
  split at h
  · rename_i i hl
    have hdd := look_desc hT hl
    split at h
    · rename_i len e a hd
      simp only [hd, descOk] at hdd
      split at h
      · exact h.elim
      · exact h.elim
      · rename_i m
        split at h
        · rename_i j hj
          obtain ⟨hb, hk⟩ := Need.out h
          simp only [Instr.indexAt]
          refine qvc_bind _ _ _ _ (show qvc G (pure (k, n) : Sem _) hs _ from ?_)
          refine qvc_bind _ _ _ _ (q_underlying hdd ?_)
          refine qvc_bind _ _ _ _ (show qvc G (pure a : Sem Addr) hs _ from ?_)
          refine qvc_bind _ _ _ _ (show qvc G (pure (some a, m + 2, e) : Sem _) hs _ from ?_)
          refine qvc_bind _ _ _ _ (q_underlying hdd ?_)
          dsimp only
          rw [if_pos hb]
          refine qvc_bind _ _ _ _ (q_sizeOf (hT.ts e j hj) ?_)
          exact hk
        · exact h.elim
    · rename_i e a len c hd
      simp only [hd, descOk] at hdd
      split at h
      · rename_i j hj
        obtain ⟨hb, hk⟩ := Need.out h
        cases a with
        | none => exact hk.elim
        | some a =>
          simp only [Instr.indexAt]
          refine qvc_bind _ _ _ _ (show qvc G (pure (k, n) : Sem _) hs _ from ?_)
          refine qvc_bind _ _ _ _ (q_underlying hdd ?_)
          refine qvc_bind _ _ _ _ (show qvc G (pure (some a, len, e) : Sem _) hs _ from ?_)
          refine qvc_bind _ _ _ _ (q_underlying hdd ?_)
          dsimp only
          rw [if_pos hb]
          refine qvc_bind _ _ _ _ (q_sizeOf (hT.ts e j hj) ?_)
          exact hk
      · exact h.elim
    · exact h.elim
  · exact h.elim
end
section
set_option linter.unusedVariables false
set_option linter.unusedSimpArgs false
variable {G : Cx} {hs : Hp} {T : Tab} {env : Env} {ρ : Operand → Value} {K : Value → Prop}

theorem q_bound {x : Value} {y : Nat} {code : BoundsCode} {Kn : Nat → Prop} {k : IntKind} {i : Int} (hx : x = .int k i) (h : 0 ≤ i ∧ i ≤ (y : Int)) (hk : Kn i.toNat) :
    qvc G (Instr.sliceBound x y code) hs Kn := by
  subst hx
  show qvc G (if 0 ≤ i ∧ i ≤ (y : Int) then pure i.toNat else boundsPanic k i y code) hs Kn
  rw [if_pos h]
  exact hk
theorem boundK_some {x : Value} {d m : Nat} {Kn : Nat → Prop} (h : boundK (some x) d m Kn) : ∃ k i, x = .int k i ∧ (0 ≤ i ∧ i ≤ (m : Int)) ∧ Kn i.toNat := by
  unfold boundK at h
  split at h
  · rename_i e; cases e
  · rename_i k i e
    obtain rfl := Option.some.inj e
    obtain ⟨h1, h2⟩ := Need.out h
    exact ⟨k, i, rfl, h1, h2⟩
  · exact h.elim

theorem q_bounds {isSlice : Bool} {len cap : Nat} {lo hi mx : Option Value} {Kb : Nat × Nat × Nat → Prop}
    (h : boundK mx cap cap fun m => match hi, mx with
        | some _, _ => boundK hi len m fun h => boundK lo 0 h fun l => Kb (l, h, m)
        | none, none => boundK lo 0 len fun l => Kb (l, len, m)
        | none, some _ => False) : qvc G (Instr.sliceBounds isSlice len cap lo hi mx) hs Kb := by
  cases mx with
  | none =>
    cases hi with
    | none =>
      cases lo with
      | none => exact h
      | some v =>
        obtain ⟨k, i, hx, hi, hk⟩ := boundK_some (show boundK (some v) 0 len (fun l => Kb (l, len, cap)) from h)
        exact qvc_bind (Instr.sliceBound v len _) (fun l => pure (l, len, cap)) _ _ (q_bound hx hi hk)
    | some u =>
      obtain ⟨k, i, hx, hi, hk⟩ := boundK_some (show boundK (some u) len cap (fun h => boundK lo 0 h fun l => Kb (l, h, cap)) from h)
      refine qvc_bind (Instr.sliceBound u cap _) _ _ _ (q_bound hx hi ?_)
      cases lo with
      | none => exact hk
      | some v =>
        obtain ⟨k', i', hx', hi', hk'⟩ := boundK_some hk
        exact qvc_bind (Instr.sliceBound v i.toNat _) (fun l => pure (l, i.toNat, cap)) _ _ (q_bound hx' hi' hk')
  | some z =>
    obtain ⟨k, i, hx, hi', hk⟩ := boundK_some h
    refine qvc_bind (Instr.sliceBound z cap _) _ _ _ (q_bound hx hi' ?_)
    cases hi with
    | none => exact hk.elim
    | some u =>
      obtain ⟨k1, i1, hx1, hi1, hk1⟩ := boundK_some (show boundK (some u) len i.toNat (fun h => boundK lo 0 h fun l => Kb (l, h, i.toNat)) from hk)
      refine qvc_bind (Instr.sliceBound u i.toNat _) _ _ _ (q_bound hx1 hi1 ?_)
      cases lo with
      | none => exact hk1
      | some v =>
        obtain ⟨k', i', hx', hi', hk'⟩ := boundK_some hk1
        exact qvc_bind (Instr.sliceBound v i1.toNat _) (fun l => pure (l, i1.toNat, i.toNat)) _ _ (q_bound hx' hi' hk')

theorem boundK_mono {x : Option Value} {d m : Nat} {K1 K2 : Nat → Prop} (hk : ∀ n, K1 n → K2 n) (h : boundK x d m K1) : boundK x d m K2 := by
  unfold boundK at h ⊢
  split at h
  · exact hk _ h
  · obtain ⟨h1, h2⟩ := Need.out h; exact Need.mk h1 (hk _ h2)
  · exact h.elim

theorem q_sliceK {t : Nat} {v : Value} {lo hi mx : Option Value} (hT : TabOK G.P T) (h : sliceK T t v lo hi mx K) : qvc G (Instr.sliceAt t v lo hi mx) hs K := by
  unfold sliceK at h
  split at h
  · rename_i i hl
    have hd := look_desc hT hl
    split at h
    · rename_i e a len cap hdd
      simp only [hdd, descOk] at hd
      split at h
      · rename_i j hj
        have hj' := hT.ts e j hj
        unfold Instr.sliceAt
        refine qvc_bind _ _ _ _ (q_underlying hd ?_)
        show qvc G (Instr.slice t (.slice a len cap) lo hi mx) hs K
        unfold Instr.slice
        refine qvc_bind _ _ _ _ (q_underlying hd ?_)
        dsimp only
        refine qvc_bind _ _ _ _ (q_bounds ?_)
        refine boundK_mono (fun m hm => ?_) h
        cases hi with
        | none =>
          cases mx with
          | none => exact boundK_mono (fun l hl => qvc_bind _ _ _ _ (q_sizeOf hj' hl)) hm
          | some _ => exact hm.elim
        | some _ => exact boundK_mono (fun h hh => boundK_mono (fun l hl => qvc_bind _ _ _ _ (q_sizeOf hj' hl)) hh) hm
      · exact h.elim
    · rename_i n e a hdd
      simp only [hdd, descOk] at hd
      split at h
      · rename_i j hj
        have hj' := hT.ts e j hj
        have fin : ∀ {l h m : Nat}, cutK (some a) j.size l h m K → K (.slice (some (if m = l then a else a.add (l * j.size))) (h - l) (m - l)) := by
          intro l h m hc
          unfold cutK at hc
          split at hc <;> rename_i hml
          · rw [if_pos hml]; exact hc
          · rw [if_neg hml]; exact hc
        unfold Instr.sliceAt
        refine qvc_bind _ _ _ _ (q_underlying hd ?_)
        dsimp only
        refine qvc_bind _ _ _ _ (show qvc G (pure a : Sem Addr) hs _ from ?_)
        refine qvc_bind _ _ _ _ (q_bounds ?_)
        refine boundK_mono (fun m hm => ?_) h
        cases hi with
        | none =>
          cases mx with
          | none => exact boundK_mono (fun l hl => qvc_bind _ _ _ _ (q_sizeOf hj' (fin hl))) hm
          | some _ => exact hm.elim
        | some _ => exact boundK_mono (fun h hh => boundK_mono (fun l hl => qvc_bind _ _ _ _ (q_sizeOf hj' (fin hl))) hh) hm
      · exact h.elim
    · rename_i s hdd
      simp only [hdd, descOk] at hd
      cases mx with
      | some _ => exact h.elim
      | none =>
        unfold Instr.sliceAt
        refine qvc_bind _ _ _ _ (q_underlying hd ?_)
        show qvc G (Instr.slice t (.string s) lo hi none) hs K
        unfold Instr.slice
        refine qvc_bind _ _ _ _ (q_underlying hd ?_)
        dsimp only
        refine qvc_bind _ _ _ _ (q_bounds ?_)
        show (fun m => _) s.size
        dsimp only
        cases hi with
        | none => exact h
        | some v => exact h
    · exact h.elim
  · exact h.elim

theorem q_arrayAt {t n c len e : Nat} {i : TyI} {a : Option Addr} (hT : TabOK G.P T) (hl : look T.ts t = some i) (hd : i.d = .arr len e) (hn : len ≤ n) (h : K (.pointer a)) :
    qvc G (Instr.arrayAt t (.slice a n c)) hs K := by
  have hdd := look_desc hT hl
  simp only [hd, descOk] at hdd
  unfold Instr.arrayAt
  refine qvc_bind _ _ _ _ (q_underlying hdd ?_)
  dsimp only
  rw [if_neg (by omega)]
  exact h

theorem q_indexStr {t : Nat} {s : ByteArray} {k : IntKind} {n : Int} {q : TyI} (hT : TabOK G.P T) (hl : look T.ts t = some q) (hd : q.d = .str)
    (hb : 0 ≤ n ∧ n < (s.size : Int)) (h : K (.int .u8 (s.data.toList.getD n.toNat 0).toNat)) : qvc G (Instr.index t (.string s) (.int k n)) hs K := by
  have hdd := look_desc hT hl
  simp only [hd, descOk] at hdd
  unfold Instr.index
  refine qvc_bind _ _ _ _ (show qvc G (pure (k, n) : Sem _) hs _ from ?_)
  refine qvc_bind _ _ _ _ (q_underlying hdd ?_)
  dsimp only
  have hlt : n.toNat < s.size := by omega
  have e : s[n.toNat]? = some (s.data.toList.getD n.toNat 0) := by
    rw [getElem?_pos s n.toNat hlt]
    have h2 : n.toNat < s.data.toList.length := by simpa using hlt
    rw [List.getD_eq_getElem?_getD, List.getElem?_eq_getElem h2]
    simp only [Option.getD_some, Array.getElem_toList]
    rfl
  rw [if_pos hb.1, e]
  exact h

theorem q_indexAgg {t e len : Nat} {cs : Array Value} {k : IntKind} {n : Int} {q j : TyI} (hT : TabOK G.P T) (hl : look T.ts t = some q) (hd : q.d = .arr len e) (hj : look T.ts e = some j) (ha : j.agg = false)
    (hb : 0 ≤ n ∧ n < (len : Int)) (h : optK (vnth cs.toList (n.toNat * j.size)) K) : qvc G (Instr.index t (.agg cs) (.int k n)) hs K := by
  have hdd := look_desc hT hl
  simp only [hd, descOk] at hdd
  have hj' := hT.ts e j hj
  unfold Instr.index
  refine qvc_bind _ _ _ _ (show qvc G (pure (k, n) : Sem _) hs _ from ?_)
  refine qvc_bind _ _ _ _ (q_underlying hdd ?_)
  dsimp only
  rw [if_pos hb]
  refine qvc_bind _ _ _ _ (q_sizeOf hj' ?_)
  unfold part
  refine qvc_bind _ _ _ _ (q_isAgg hj' ?_)
  rw [ha]
  have e : cs[n.toNat * j.size]? = vnth cs.toList (n.toNat * j.size) := by rw [← vnth_eq, Array.getElem?_toList]
  simp only [e]
  cases hv : vnth cs.toList (n.toNat * j.size) with
  | none => rw [hv] at h; exact h.elim
  | some v => rw [hv] at h; exact h
theorem push_all (l : List Int) (acc : ByteArray) : l.foldl (fun s (x : Int) => s.push (UInt8.ofNat x.toNat)) acc = ⟨acc.data ++ (l.map fun x => UInt8.ofNat x.toNat).toArray⟩ := by
  induction l generalizing acc with
  | nil => simp
  | cons x l ih =>
    simp only [List.foldl_cons, ih, List.map_cons]
    congr 1
    apply Array.ext'
    simp [ByteArray.push]
end
section
set_option linter.unusedVariables false
set_option linter.unusedSimpArgs false
variable {G : Cx} {hs : Hp} {T : Tab} {env : Env} {ρ : Operand → Value} {K : Value → Prop}

theorem q_forBytes (f : Value → ByteArray → Sem (ForInStep ByteArray)) (hf : ∀ n s, f (.int .u8 n) s = pure (.yield (s.push (UInt8.ofNat n.toNat)))) :
    ∀ (xs : List Int) (acc : ByteArray) (Ks : ByteArray → Prop), Ks (xs.foldl (fun s (x : Int) => s.push (UInt8.ofNat x.toNat)) acc) → qvc G (forIn (bytesOf xs) acc f) hs Ks
  | [], acc, Ks, h => by simp only [bytesOf, List.map_nil, List.forIn_nil]; exact h
  | x :: xs, acc, Ks, h => by
    simp only [bytesOf, List.map_cons, List.forIn_cons, hf]
    exact q_forBytes f hf xs _ Ks h
theorem q_bytesToString {a : Option Addr} {n c : Nat} {xs : List Int} (hn : xs.length = n) (hc : 0 < n → ∃ ad, a = some ad ∧ G.cellsAre hs ad (bytesOf xs)) (h : K (.string (strOf xs))) :
    qvc G (Conv.bytesToString (.slice a n c)) hs K := by
  have e : xs.foldl (fun s (x : Int) => s.push (UInt8.ofNat x.toNat)) ByteArray.empty = strOf xs := by
    rw [push_all]; unfold strOf; congr 1
    show (#[] : Array UInt8) ++ _ = _
    simp
  cases a with
  | none =>
    have h0 : n = 0 := by
      rcases Nat.eq_zero_or_pos n with h0 | h0
      · exact h0
      · obtain ⟨ad, hx, _⟩ := hc h0; cases hx
    subst h0
    obtain rfl := List.eq_nil_of_length_eq_zero hn
    exact h
  | some ad =>
    unfold Conv.bytesToString
    dsimp only
    have hcells : G.cellsAre hs ad (bytesOf xs) := by
      rcases Nat.eq_zero_or_pos n with h0 | h0
      · subst h0
        obtain rfl := List.eq_nil_of_length_eq_zero hn
        intro i v hv
        simp [bytesOf] at hv
      · obtain ⟨ad', hx, hh⟩ := hc h0; cases hx; exact hh
    refine qvc_bind _ _ _ _ (q_loadCells (vs := bytesOf xs) (by simp [bytesOf, hn]) hcells ?_)
    simp only [List.forIn_toArray]
    refine qvc_bind _ _ _ _ (q_forBytes _ (fun n s => rfl) xs ByteArray.empty _ ?_)
    rw [e]
    exact h

theorem q_convK {s d : Nat} {v : Value} (hT : TabOK G.P T) (h : convK G T hs s d v K) : qvc G (convert s d v) hs K := by
  unfold convK at h
  split at h
  · rename_i i j hi hj
    have hdi := look_desc hT hi
    have hdj := look_desc hT hj
    split at h
    · rename_i k k' n hd1 hd2
      simp only [hd1, hd2, descOk] at hdi hdj
      unfold convert
      refine qvc_bind _ _ _ _ (q_underlying hdi ?_)
      refine qvc_bind _ _ _ _ (q_underlying hdj ?_)
      exact q_wrap h
    · rename_i x hd1 hd2
      simp only [hd1, hd2, descOk] at hdi hdj
      unfold convert
      refine qvc_bind _ _ _ _ (q_underlying hdi ?_)
      refine qvc_bind _ _ _ _ (q_underlying hdj ?_)
      exact h
    · rename_i e a n c hd1 hd2
      simp only [hd1, hd2, descOk] at hdi hdj
      split at h
      · rename_i q hq
        split at h
        · rename_i hqd
          obtain ⟨xs, ⟨h1, h2⟩, h3⟩ := h.out
          have hdq := look_desc hT hq
          simp only [hqd, descOk] at hdq
          unfold convert
          refine qvc_bind _ _ _ _ (q_underlying hdi ?_)
          refine qvc_bind _ _ _ _ (q_underlying hdj ?_)
          dsimp only
          refine qvc_bind _ _ _ _ (q_underlying hdq ?_)
          exact q_bytesToString h1 h2 h3
        · exact h.elim
      · exact h.elim
    · exact h.elim
  · exact h.elim

/-! Values laid into a value -/
def layL : List Value → List Value → Nat → List Value
  | [], cells, _ => cells
  | v :: vs, cells, n => layL vs (cells.set n v) (n + 1)
theorem foldl_set (vs : List Value) : ∀ (off : Nat) (cells : List Value) (j0 : Nat),
    (vs.zipIdx j0).foldl (fun (cs : Array Value) (p : Value × Nat) => cs.setIfInBounds (off + p.2) p.1) cells.toArray = (layL vs cells (off + j0)).toArray := by
  induction vs with
  | nil => intro off cells j0; simp [layL]
  | cons v vs ih =>
    intro off cells j0
    simp only [List.zipIdx_cons, List.foldl_cons, List.setIfInBounds_toArray, layL]
    rw [ih off (cells.set (off + j0) v) (j0 + 1)]
    rw [show off + (j0 + 1) = off + j0 + 1 by omega]
theorem layK_out : ∀ (vs l : List Value) (n : Nat) (Kl : List Value → Prop), layK Kl l vs n → Kl (layL vs l n)
  | [], _, _, _, h => h
  | v :: vs, l, n, Kl, h => layK_out vs _ _ _ (setK_out l n _ h)
theorem cells_eq (v : Value) : v.cells.toList = cellsL v := by cases v <;> simp [Value.cells, cellsL]

theorem fill_out (place : Nat → Option (Nat × Nat)) (placeK : Nat → (Nat → Nat → Prop) → Prop) (hp : ∀ i k, placeK i k → ∃ off size, place i = some (off, size) ∧ k off size) :
    ∀ (parts : List (Nat × Value)) (l : List Value) (Kl : List Value → Prop), partsK placeK Kl l parts → ∃ l', Instr.fill place l.toArray parts = some l'.toArray ∧ Kl l'
  | [], l, Kl, h => ⟨l, rfl, h⟩
  | (i, v) :: r, l, Kl, h => by
    obtain ⟨off, size, hi, h⟩ := hp _ _ h
    obtain ⟨⟨h1, h2⟩, h⟩ := Need.out h
    have h3 := layK_out _ _ _ _ h
    obtain ⟨l', h4, h5⟩ := fill_out place placeK hp r _ Kl h3
    refine ⟨l', ?_, h5⟩
    have hsz : v.cells.size = size := by rw [← h1, ← cells_eq]; simp
    have hz : Array.foldl (fun (cs : Array Value) (p : Value × Nat) => cs.setIfInBounds (off + p.2) p.1) l.toArray v.cells.zipIdx = (layL (cellsL v) l off).toArray := by
      have := foldl_set (cellsL v) off l 0
      rw [Nat.add_zero] at this
      rw [← this, ← cells_eq, ← Array.foldl_toList]
      rw [Array.toList_zipIdx]
    unfold Instr.fill
    rw [hi]
    dsimp only
    rw [if_neg (by simp; omega)]
    rw [hz]
    exact h4

theorem q_mapM (f : Field → Sem (Nat × Nat)) (g : Field → Nat × Nat) : ∀ (l : List Field) (Kl : List (Nat × Nat) → Prop),
    (∀ x ∈ l, ∀ Kx : Nat × Nat → Prop, Kx (g x) → qvc G (f x) hs Kx) → Kl (l.map g) → qvc G (l.mapM f) hs Kl
  | [], Kl, _, h => by simp only [List.mapM_nil]; exact h
  | x :: l, Kl, hf, h => by
    simp only [List.mapM_cons]
    refine qvc_bind _ _ _ _ (hf x (List.mem_cons_self ..) _ ?_)
    refine qvc_bind _ _ _ _ (q_mapM f g l _ (fun y hy => hf y (List.mem_cons_of_mem _ hy)) ?_)
    exact h
theorem q_build {t : Nat} {parts : Array (Nat × Value)} (hT : TabOK G.P T) (h : buildK T t parts.toList K) : qvc G (Instr.build t parts) hs K := by
  unfold buildK at h
  split at h
  · rename_i i hl
    have hi := hT.ts t i hl
    have hd := hi.desc
    have hz : (zeroOf i).cells = i.zero.toArray ∨ i.agg = false := by
      unfold zeroOf
      cases ha : i.agg with
      | true => left; simp [Value.cells]
      | false => right; rfl
    split at h
    · rename_i fs hdd
      have hagg : i.agg = true := by rw [hi.agg, hdd]; rfl
      simp only [hdd, descOk] at hd
      obtain ⟨a, hu, hm, hall⟩ := hd
      have hzz : (zeroOf i).cells = i.zero.toArray := by rcases hz with h' | h'; exact h'; rw [hagg] at h'; cases h'
      unfold Instr.build
      refine qvc_bind _ _ _ _ (q_zeroValue hi ?_)
      refine qvc_bind _ _ _ _ (q_underlying hu ?_)
      dsimp only
      let g : Field → Nat × Nat := fun f => (f.offset, ((G.P.info? f.type).map (·.size)).getD 0)
      have hmap : qvc G (a.mapM fun f => do pure (f.offset, ← sizeOf f.type)) hs (fun places => places = (a.toList.map g).toArray) := by
        rw [Array.mapM_eq_mapM_toList]
        rw [map_eq_pure_bind]
        refine qvc_bind _ _ _ _ (q_mapM _ g a.toList _ (fun x hx Kx hk => ?_) ?_)
        · have hs1 := List.all_eq_true.1 hall x hx
          obtain ⟨ti, hti⟩ := Option.isSome_iff_exists.1 hs1
          refine qvc_bind _ _ _ _ (qvc_bind _ _ _ _ (q_typeInfo hti ?_))
          have : g x = (x.offset, ti.size) := by simp [g, hti]
          rw [this] at hk
          exact hk
        · exact rfl
      have fin : ∀ (m : Sem (Array (Nat × Nat))) (f : Array (Nat × Nat) → Sem Value) (p : Array (Nat × Nat)), qvc G m hs (fun x => x = p) → qvc G (f p) hs K → qvc G (m.bind f) hs K := by
        intro m f p h1 h2
        refine qvc_bind _ _ _ _ ?_
        revert h1
        induction m with
        | pure a => intro h; rw [show a = p from h]; exact h2
        | load m a k ih => rintro ⟨v, hv, h⟩; exact ⟨v, hv, ih v h⟩
        | shape r k ih => rintro ⟨e, he, hr, h⟩; exact ⟨e, he, hr, ih _ h⟩
        | program k ih => intro h; exact ih _ h
        | mark m k ih => intro h; exact ih h
        | _ => intro h; exact h.elim
      refine fin _ _ _ hmap ?_
      have hp : ∀ (n : Nat) (k : Nat → Nat → Prop), (match nth fs n with
          | some (off, ft) => match look T.ts ft with
            | some j => k off j.size
            | none => False
          | none => False) → ∃ off size, ((a.toList.map g).toArray)[n]? = some (off, size) ∧ k off size := by
        intro n k hk
        cases hn : nth fs n with
        | none => rw [hn] at hk; exact hk.elim
        | some p =>
          obtain ⟨off, ft⟩ := p
          rw [hn] at hk
          dsimp only at hk
          cases hj : look T.ts ft with
          | none => rw [hj] at hk; exact hk.elim
          | some j =>
            rw [hj] at hk
            obtain ⟨x, hx, ho, ht⟩ := field_of hm hn
            refine ⟨off, j.size, ?_, hk⟩
            obtain ⟨ti, hti, hsz, _⟩ := (hT.ts ft j hj).look
            have hx' : a.toList[n]? = some x := by rw [Array.getElem?_toList]; exact hx
            rw [List.getElem?_toArray, List.getElem?_map, hx']
            simp only [Option.map_some, g, ho, ht, hti, Option.getD_some, hsz]
      obtain ⟨l', h1, h2⟩ := fill_out (fun n => ((a.toList.map g).toArray)[n]?) _ hp _ _ _ h
      rw [hzz, h1]
      exact h2
    · rename_i n e hdd
      have hagg : i.agg = true := by rw [hi.agg, hdd]; rfl
      simp only [hdd, descOk] at hd
      have hzz : (zeroOf i).cells = i.zero.toArray := by rcases hz with h' | h'; exact h'; rw [hagg] at h'; cases h'
      split at h
      · rename_i j hj
        unfold Instr.build
        refine qvc_bind _ _ _ _ (q_zeroValue hi ?_)
        refine qvc_bind _ _ _ _ (q_underlying hd ?_)
        dsimp only
        refine qvc_bind _ _ _ _ (q_sizeOf (hT.ts e j hj) ?_)
        obtain ⟨l', h1, h2⟩ := fill_out (fun i => some (i * j.size, j.size)) _ (fun i k hk => ⟨_, _, rfl, hk⟩) _ _ _ h
        rw [hzz, h1]
        exact h2
      · exact h.elim
    · exact h.elim
  · exact h.elim
end
end Go.Proofs.YtnlheljpagpiiaaGreat
