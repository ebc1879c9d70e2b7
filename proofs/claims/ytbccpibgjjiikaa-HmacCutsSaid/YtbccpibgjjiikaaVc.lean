/-
  Verification conditions by reckoning: a state is a frame (slots with values) and a list of blocks known whole; the rules say what a piece of code comes to.
-/
import Derived.Calls
import Derived.Orders
import Derived.Below
import Derived.KernelRfl
import Derived.Tactics
namespace Go.Proofs.Ytbccpibgjjiikaa

/-! ### 1. What is known of a world -/
/-- A block known whole. -/
structure Ent where
  b : Nat
  cs : List Value
  t : TypeId
  fr : Nat × Nat
abbrev Hp := List Ent

/-- The program, the world at the call's begin, the blocks of it that may change. -/
structure Cx where
  P : Program
  w0 : World
  fp : List Nat

structure St (G : Cx) (hs : Hp) (w : World) : Prop where
  os : w.os = G.w0.os
  tape : w.tape = G.w0.tape
  output : w.output = G.w0.output
  size : G.w0.heap.size ≤ w.heap.size
  old : ∀ b, b < G.w0.heap.size → b ∉ G.fp → w.heap[b]? = G.w0.heap[b]?
  own : ∀ e ∈ hs, w.heap[e.b]? = some (.cells e.cs.toArray e.t e.fr)
  nodup : (hs.map (·.b)).Nodup
  new : ∀ e ∈ hs, G.w0.heap.size ≤ e.b ∨ e.b ∈ G.fp

variable {G : Cx}

theorem St.lt {hs : Hp} {w : World} (h : St G hs w) {e : Ent} (he : e ∈ hs) : e.b < w.heap.size :=
  (Array.getElem?_eq_some_iff.1 (h.own e he)).1

theorem St.drawn {hs : Hp} {w : World} (h : St G hs w) (n : Nat) : St G hs { w with drawn := n } :=
  ⟨h.os, h.tape, h.output, h.size, h.old, h.own, h.nodup, h.new⟩

theorem St.push {hs : Hp} {w : World} (h : St G hs w) (cs : Array Value) (t : TypeId) (fr : Nat × Nat) :
    St G (⟨w.heap.size, cs.toList, t, fr⟩ :: hs) { w with heap := w.heap.push (.cells cs t fr) } := by
  refine ⟨h.os, h.tape, h.output, ?_, ?_, ?_, ?_, ?_⟩
  · have := h.size; simp; omega
  · intro b hb hf
    have := h.size
    show (w.heap.push _)[b]? = _
    rw [Array.getElem?_push, if_neg (by omega)]
    exact h.old b hb hf
  · intro e he
    show (w.heap.push _)[e.b]? = _
    rcases List.mem_cons.1 he with rfl | he
    · simp
    · rw [Array.getElem?_push, if_neg (by have := h.lt he; omega)]
      exact h.own e he
  · simp only [List.map_cons, List.nodup_cons]
    refine ⟨fun hm => ?_, h.nodup⟩
    obtain ⟨e, he, hb⟩ := List.mem_map.1 hm
    have := h.lt he
    omega
  · intro e he
    rcases List.mem_cons.1 he with rfl | he
    · exact .inl h.size
    · exact h.new e he

theorem St.sub {hs hs' : Hp} {w : World} (h : St G hs w) (hsub : hs'.Sublist hs) : St G hs' w :=
  ⟨h.os, h.tape, h.output, h.size, h.old, fun e he => h.own e (hsub.subset he), h.nodup.sublist (hsub.map _), fun e he => h.new e (hsub.subset he)⟩

/-- In every such world the cell holds the value. -/
def Cx.cellIs (G : Cx) (hs : Hp) (a : Addr) (v : Value) : Prop := ∀ w, St G hs w → w.cell? a = some v
/-- The cells behind one another. -/
def Cx.cellsAre (G : Cx) (hs : Hp) (a : Addr) (vs : List Value) : Prop := ∀ i v, vs[i]? = some v → G.cellIs hs (a.add i) v
/-- A store goes through, and leaves such a world. -/
def Cx.stores (G : Cx) (hs : Hp) (a : Addr) (v : Value) (hs' : Hp) : Prop :=
  ∀ w, St G hs w → (w.cell? a).isSome ∧ w.frozen? a = false ∧ St G hs' (w.setCell a v)

/-- A value of one cell. -/
def one : Value → Bool
  | .agg _ => false
  | .tuple _ => false
  | _ => true

/-! ### 2. The machine's small steps -/
def svc (G : Cx) {α : Type} : Sem α → Hp → (α → Hp → Prop) → Prop
  | .pure a, hs, K => K a hs
  | .load _ a k, hs, K => ∃ v, G.cellIs hs a v ∧ svc G (k v) hs K
  | .store _ a v k, hs, K => one v = true ∧ ∃ hs', G.stores hs a v hs' ∧ svc G k hs' K
  | .new (.cells cs t fr) k, hs, K => ∀ b, svc G (k b) (⟨b, cs.toList, t, fr⟩ :: hs) K
  | .shape r k, hs, K => ∃ e ∈ hs, e.b = r ∧ svc G (k (some (e.t, e.cs.length))) hs K
  | .freeze a n k, hs, K => ∃ hs', (∀ w, St G hs w → St G hs' (w.freeze a n)) ∧ svc G k hs' K
  | .choose q k, hs, K => ∀ n, (∃ t, n = if q.forced then 0 else q.cut t) → svc G (k n) hs K
  | .program k, hs, K => svc G (k G.P) hs K
  | .mark _ k, hs, K => svc G k hs K
  | _, _, _ => False

theorem svc_sound {α : Type} (m : Sem α) : ∀ (hs : Hp) (K : α → Hp → Prop), svc G m hs K → ∀ w, St G hs w →
    ∃ a w' hs', m.run G.P w = .ok a w' ∧ St G hs' w' ∧ K a hs' := by
  induction m with
  | pure a => intro hs K h w hw; exact ⟨a, w, hs, rfl, hw, h⟩
  | load m a k ih =>
    intro hs K h w hw
    obtain ⟨v, hv, h⟩ := h
    obtain ⟨a', w', hs', hr, h'⟩ := ih v hs K h w hw
    exact ⟨a', w', hs', by simp only [Sem.run, hv w hw]; exact hr, h'⟩
  | store m a v k ih =>
    intro hs K h w hw
    obtain ⟨h1, hs1, hst, h⟩ := h
    obtain ⟨hc, hf, hw1⟩ := hst w hw
    obtain ⟨a', w', hs', hr, h'⟩ := ih hs1 K h _ hw1
    refine ⟨a', w', hs', ?_, h'⟩
    obtain ⟨u, hu⟩ := Option.isSome_iff_exists.1 hc
    cases v <;> first | (simp [one] at h1; done) | (simp only [Sem.run, hu, hf]; exact hr)
  | new o k ih =>
    intro hs K h w hw
    cases o with
    | cells cs t fr =>
      obtain ⟨a', w', hs', hr, h'⟩ := ih w.heap.size _ K (h w.heap.size) _ (hw.push cs t fr)
      exact ⟨a', w', hs', by simp only [Sem.run]; exact hr, h'⟩
    | _ => exact h.elim
  | shape r k ih =>
    intro hs K h w hw
    obtain ⟨e, he, rfl, h⟩ := h
    obtain ⟨a', w', hs', hr, h'⟩ := ih _ hs K h w hw
    refine ⟨a', w', hs', ?_, h'⟩
    simp only [Sem.run, World.shape?, hw.own e he]
    simpa using hr
  | freeze a n k ih =>
    intro hs K h w hw
    obtain ⟨hs1, hst, h⟩ := h
    obtain ⟨a', w', hs', hr, h'⟩ := ih hs1 K h _ (hst w hw)
    exact ⟨a', w', hs', by simp only [Sem.run]; exact hr, h'⟩
  | choose q k ih =>
    intro hs K h w hw
    simp only [Sem.run]
    by_cases hq : q.forced = true
    · obtain ⟨a', w', hs', hr, h'⟩ := ih 0 hs K (h 0 ⟨0, by simp [hq]⟩) w hw
      exact ⟨a', w', hs', by rw [if_pos hq]; exact hr, h'⟩
    · obtain ⟨a', w', hs', hr, h'⟩ := ih (q.cut (w.tape w.drawn q)) hs K (h _ ⟨_, by rw [if_neg hq]⟩) _ (hw.drawn (w.drawn + 1))
      exact ⟨a', w', hs', by rw [if_neg hq]; exact hr, h'⟩
  | program k ih => intro hs K h w hw; exact ih _ hs K h w hw
  | mark m k ih => intro hs K h w hw; exact ih hs K h w hw
  | _ => intro hs K h; exact h.elim

theorem svc_bind {α β : Type} (m : Sem α) (f : α → Sem β) : ∀ (hs : Hp) (K : β → Hp → Prop),
    svc G m hs (fun a hs' => svc G (f a) hs' K) → svc G (m.bind f) hs K := by
  induction m with
  | pure a => intro hs K h; exact h
  | load m a k ih => intro hs K h; obtain ⟨v, hv, h⟩ := h; exact ⟨v, hv, ih v hs K h⟩
  | store m a v k ih => intro hs K h; obtain ⟨h1, hs1, hst, h⟩ := h; exact ⟨h1, hs1, hst, ih hs1 K h⟩
  | new o k ih =>
    intro hs K h
    cases o with
    | cells cs t fr => exact fun b => ih b _ K (h b)
    | _ => exact h.elim
  | shape r k ih => intro hs K h; obtain ⟨e, he, hr, h⟩ := h; exact ⟨e, he, hr, ih _ hs K h⟩
  | freeze a n k ih => intro hs K h; obtain ⟨hs1, hst, h⟩ := h; exact ⟨hs1, hst, ih hs1 K h⟩
  | choose q k ih => intro hs K h; exact fun n hn => ih n hs K (h n hn)
  | program k ih => intro hs K h; exact ih _ hs K h
  | mark m k ih => intro hs K h; exact ih hs K h
  | _ => intro hs K h; exact h.elim

theorem svc_mono {α : Type} (m : Sem α) : ∀ (hs : Hp) (K K' : α → Hp → Prop), (∀ a hs, K a hs → K' a hs) → svc G m hs K → svc G m hs K' := by
  induction m with
  | pure a => intro hs K K' hk h; exact hk _ _ h
  | load m a k ih => intro hs K K' hk h; obtain ⟨v, hv, h⟩ := h; exact ⟨v, hv, ih v hs K K' hk h⟩
  | store m a v k ih => intro hs K K' hk h; obtain ⟨h1, hs1, hst, h⟩ := h; exact ⟨h1, hs1, hst, ih hs1 K K' hk h⟩
  | new o k ih =>
    intro hs K K' hk h
    cases o with
    | cells cs t fr => exact fun b => ih b _ K K' hk (h b)
    | _ => exact h.elim
  | shape r k ih => intro hs K K' hk h; obtain ⟨e, he, hr, h⟩ := h; exact ⟨e, he, hr, ih _ hs K K' hk h⟩
  | freeze a n k ih => intro hs K K' hk h; obtain ⟨hs1, hst, h⟩ := h; exact ⟨hs1, hst, ih hs1 K K' hk h⟩
  | choose q k ih => intro hs K K' hk h; exact fun n hn => ih n hs K K' hk (h n hn)
  | program k ih => intro hs K K' hk h; exact ih _ hs K K' hk h
  | mark m k ih => intro hs K K' hk h; exact ih hs K K' hk h
  | _ => intro hs K K' hk h; exact h.elim

/-- What only reads: one answer, in every such world, and the world as it was. -/
def qvc (G : Cx) {α : Type} : Sem α → Hp → (α → Prop) → Prop
  | .pure a, _, K => K a
  | .load _ a k, hs, K => ∃ v, G.cellIs hs a v ∧ qvc G (k v) hs K
  | .shape r k, hs, K => ∃ e ∈ hs, e.b = r ∧ qvc G (k (some (e.t, e.cs.length))) hs K
  | .program k, hs, K => qvc G (k G.P) hs K
  | .mark _ k, hs, K => qvc G k hs K
  | _, _, _ => False

theorem qvc_sound {α : Type} (m : Sem α) : ∀ (hs : Hp) (K : α → Prop), qvc G m hs K → ∃ a, (∀ w, St G hs w → m.run G.P w = .ok a w) ∧ K a := by
  induction m with
  | pure a => intro hs K h; exact ⟨a, fun _ _ => rfl, h⟩
  | load m a k ih =>
    intro hs K h
    obtain ⟨v, hv, h⟩ := h
    obtain ⟨a', hr, h'⟩ := ih v hs K h
    exact ⟨a', fun w hw => by simp only [Sem.run, hv w hw]; exact hr w hw, h'⟩
  | shape r k ih =>
    intro hs K h
    obtain ⟨e, he, rfl, h⟩ := h
    obtain ⟨a', hr, h'⟩ := ih _ hs K h
    exact ⟨a', fun w hw => by simp only [Sem.run, World.shape?, hw.own e he]; simpa using hr w hw, h'⟩
  | program k ih => intro hs K h; exact ih _ hs K h
  | mark m k ih => intro hs K h; exact ih hs K h
  | _ => intro hs K h; exact h.elim

theorem qvc_bind {α β : Type} (m : Sem α) (f : α → Sem β) : ∀ (hs : Hp) (K : β → Prop), qvc G m hs (fun a => qvc G (f a) hs K) → qvc G (m.bind f) hs K := by
  induction m with
  | pure a => intro hs K h; exact h
  | load m a k ih => intro hs K h; obtain ⟨v, hv, h⟩ := h; exact ⟨v, hv, ih v hs K h⟩
  | shape r k ih => intro hs K h; obtain ⟨e, he, hr, h⟩ := h; exact ⟨e, he, hr, ih _ hs K h⟩
  | program k ih => intro hs K h; exact ih _ hs K h
  | mark m k ih => intro hs K h; exact ih hs K h
  | _ => intro hs K h; exact h.elim

theorem svc_of_qvc {α : Type} (m : Sem α) : ∀ (hs : Hp) (K : α → Prop), qvc G m hs K → svc G m hs (fun a hs' => K a ∧ hs' = hs) := by
  induction m with
  | pure a => intro hs K h; exact ⟨h, rfl⟩
  | load m a k ih => intro hs K h; obtain ⟨v, hv, h⟩ := h; exact ⟨v, hv, ih v hs K h⟩
  | shape r k ih => intro hs K h; obtain ⟨e, he, hr, h⟩ := h; exact ⟨e, he, hr, ih _ hs K h⟩
  | program k ih => intro hs K h; exact ih _ hs K h
  | mark m k ih => intro hs K h; exact ih hs K h
  | _ => intro hs K h; exact h.elim

end Go.Proofs.Ytbccpibgjjiikaa
