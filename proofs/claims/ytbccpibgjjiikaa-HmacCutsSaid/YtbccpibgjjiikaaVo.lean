/-
  The operations that only read: what each comes to, in a state.
-/
import Derived.Test.YtbccpibgjjiikaaVc
import Derived.Laws.StructEq
set_option linter.unusedVariables false
namespace Go.Proofs.Ytbccpibgjjiikaa
variable {G : Cx}

/-! ### 1. What is asked -/
structure Need (p k : Prop) : Prop where mk ::
  h : p
  k : k
structure Split (p : Prop) (k : Bool → Prop) : Prop where mk ::
  yes : p → k true
  no : ¬ p → k false
inductive Pick {α : Type} (p : α → Prop) (k : α → Prop) : Prop
  | mk (x : α) (h : p x) (hk : k x)
structure Any {α : Type} (k : α → Prop) : Prop where mk ::
  out : ∀ x, k x
theorem Need.out {p k : Prop} (h : Need p k) : p ∧ k := ⟨h.h, h.k⟩
theorem Split.out {p : Prop} {k : Bool → Prop} (h : Split p k) : (p → k true) ∧ (¬ p → k false) := ⟨h.yes, h.no⟩
theorem Split.dec {p : Prop} [Decidable p] {k : Bool → Prop} (h : Split p k) : k (decide p) := by
  by_cases hp : p
  · simpa [hp] using h.out.1 hp
  · simpa [hp] using h.out.2 hp
theorem Pick.out {α : Type} {p k : α → Prop} (h : Pick p k) : ∃ x, p x ∧ k x := by cases h with | mk x h hk => exact ⟨x, h, hk⟩

/-! ### 2. The types -/
inductive TyD where
  | int (k : IntKind) | bool | str | ptr (e : Nat) | slice (e : Nat) | arr (n e : Nat) | struct (fs : List (Nat × Nat)) | func | iface | other
structure TyI where
  d : TyD
  size : Nat
  bytes : Nat
  zero : List Value
  agg : Bool
structure Tab where
  ts : List (Nat × TyI)
  nf : Nat
  eqs : List (Nat × Nat) := []
def Tab.has (T : Tab) (n : Nat) : Bool := match Nat.blt n T.nf with
  | true => Nat.blt 1 n
  | false => false
def look : List (Nat × TyI) → Nat → Option TyI
  | [], _ => none
  | (j, i) :: r, t => match Nat.beq j t with
    | true => some i
    | false => look r t
def zeroOf (i : TyI) : Value := match i.agg, i.zero with
  | true, l => .agg l.toArray
  | false, v :: _ => v
  | false, [] => undef
def descOk (P : Program) (t : Nat) : TyD → Prop
  | .int k => P.underlying t = some (.int k)
  | .bool => P.underlying t = some .bool
  | .str => P.underlying t = some .string
  | .ptr e => P.underlying t = some (.pointer e)
  | .slice e => P.underlying t = some (.slice e)
  | .arr n e => P.underlying t = some (.array n e)
  | .struct fs => ∃ a : Array Field, P.underlying t = some (.struct a) ∧ a.toList.map (fun f => (f.offset, f.type)) = fs ∧ a.toList.all (fun f => (P.info? f.type).isSome) = true
  | .func => ∃ a b c, P.underlying t = some (.func a b c)
  | .iface => ∃ a, P.underlying t = some (.interface a)
  | .other => True
def aggD : TyD → Bool
  | .arr _ _ | .struct _ => true
  | _ => false
structure TyOK (P : Program) (t : Nat) (i : TyI) : Prop where
  info : (P.info? t).map (fun x => (x.size, x.bytes, x.zero)) = some (i.size, i.bytes, some (zeroOf i))
  desc : descOk P t i.d
  agg : i.agg = aggD i.d
  known : (match i.d with | .other => false | _ => true) = true
  zlen : i.zero.length = i.size
  zone : i.agg = false → ∃ v, i.zero = [v] ∧ v.cells = #[v]
def callable (P : Program) (f : Nat) : Prop :=
  ∃ fn, P.funcs[f]? = some fn ∧ (fn.name == "runtime.NumGoroutine") = false ∧ fn.body.isNone = false
def eqLook : List (Nat × Nat) → Nat → Option Nat
  | [], _ => none
  | (j, n) :: r, t => match Nat.beq j t with
    | true => some n
    | false => eqLook r t
def fieldsB (P : Program) : List Field → Nat → Bool
  | [], _ => true
  | f :: r, i => (f.name != "_") && (f.offset == i) && (match P.underlying f.type with | some (.int _) => true | _ => false) && fieldsB P r (i + 1)
structure EqOK (P : Program) (t n : Nat) : Prop where
  desc : P.underlying t = some (.struct (P.fieldsOf t))
  stood : P.stoodInHeld t = false
  guard : P.eqGuardType P.depth t = false
  fields : fieldsB P (P.fieldsOf t).toList 0 = true
  len : (P.fieldsOf t).toList.length = n
structure TabOK (P : Program) (T : Tab) : Prop where
  eqs : ∀ t n, eqLook T.eqs t = some n → EqOK P t n
  ts : ∀ t i, look T.ts t = some i → TyOK P t i
  fns : ∀ f, T.has f = true → callable P f
  mixed : P.follows .mixedOrders = true

section reads
variable {hs : Hp} {T : Tab} {t : Nat} {i : TyI}
theorem q_program {K : Program → Prop} (h : K G.P) : qvc G program hs K := h
theorem q_underlying {d : TypeDesc} {K : TypeDesc → Prop} (hd : G.P.underlying t = some d) (h : K d) : qvc G (underlying t) hs K := by
  simp only [underlying, program, bind, Sem.bind, qvc, hd]
  exact h
theorem q_typeInfo {x : TypeInfo} {K : TypeInfo → Prop} (hx : G.P.info? t = some x) (h : K x) : qvc G (typeInfo t) hs K := by
  simp only [typeInfo, program, bind, Sem.bind, qvc, hx]
  exact h
theorem TyOK.look {P : Program} (hi : TyOK P t i) : ∃ x, P.info? t = some x ∧ x.size = i.size ∧ x.bytes = i.bytes ∧ x.zero = some (zeroOf i) := by
  have := hi.info
  obtain ⟨x, hx, he⟩ := Option.map_eq_some_iff.1 this
  simp only [Prod.mk.injEq] at he
  exact ⟨x, hx, he⟩
theorem q_sizeOf {K : Nat → Prop} (hi : TyOK G.P t i) (h : K i.size) : qvc G (sizeOf t) hs K := by
  obtain ⟨x, hx, h1, h2, h3⟩ := hi.look
  exact qvc_bind _ _ _ _ (q_typeInfo hx (by rw [h1]; exact h))
theorem q_zeroValue {K : Value → Prop} (hi : TyOK G.P t i) (h : K (zeroOf i)) : qvc G (zeroValue t) hs K := by
  obtain ⟨x, hx, h1, h2, h3⟩ := hi.look
  refine qvc_bind _ _ _ _ (q_typeInfo hx ?_)
  simp only [h3]
  exact h
theorem q_isAgg {K : Bool → Prop} (hi : TyOK G.P t i) (h : K i.agg) : qvc G (isAgg t) hs K := by
  have hd := hi.desc
  have ha := hi.agg
  have hk := hi.known
  unfold isAgg
  cases hdd : i.d <;> simp only [hdd, descOk, aggD] at hd ha hk <;> rw [ha] at h
  case struct fs => obtain ⟨a, hu, _⟩ := hd; exact qvc_bind _ _ _ _ (q_underlying hu h)
  case func => obtain ⟨a, b, c, hu⟩ := hd; exact qvc_bind _ _ _ _ (q_underlying hu h)
  case iface => obtain ⟨a, hu⟩ := hd; exact qvc_bind _ _ _ _ (q_underlying hu h)
  case other => cases hk
  all_goals exact qvc_bind _ _ _ _ (q_underlying hd h)
theorem q_load {a : Addr} {v : Value} {K : Value → Prop} (hv : G.cellIs hs a v) (h : K v) : qvc G (load a) hs K := ⟨v, hv, h⟩
theorem q_loadCellsFrom (a : Addr) : ∀ (vs : List Value) (i : Nat) (acc : Array Value) (K : Array Value → Prop),
    (∀ j v, vs[j]? = some v → G.cellIs hs (a.add (i + j)) v) → K (acc ++ vs.toArray) → qvc G (loadCellsFrom a i vs.length acc) hs K
  | [], i, acc, K, _, h => by
    have h' : K acc := by simpa using h
    exact h'
  | v :: vs, i, acc, K, hc, h => by
    simp only [List.length_cons, loadCellsFrom]
    refine qvc_bind _ _ _ _ (q_load (hc 0 v rfl) ?_)
    refine q_loadCellsFrom a vs (i + 1) (acc.push v) K (fun j u hj => ?_) ?_
    · have := hc (j + 1) u hj
      rwa [show i + (j + 1) = i + 1 + j by omega] at this
    · have e : acc ++ (v :: vs).toArray = acc.push v ++ vs.toArray := by
        apply Array.ext'
        simp
      rw [← e]; exact h
theorem q_loadCells {a : Addr} {vs : List Value} {n : Nat} {K : Array Value → Prop} (hn : vs.length = n) (hc : G.cellsAre hs a vs) (h : K vs.toArray) : qvc G (loadCells a n) hs K := by
  subst hn
  refine q_loadCellsFrom a vs 0 #[] K (fun j v hj => by rw [Nat.zero_add]; exact hc j v hj) ?_
  have e : (#[] ++ vs.toArray : Array Value) = vs.toArray := by simp
  rw [e]; exact h
end reads

/-! ### 3. The frame -/
abbrev Env := List (Nat × Value)
def lk : Env → Nat → Option Value
  | [], _ => none
  | (j, v) :: r, i => match Nat.beq j i with
    | true => some v
    | false => lk r i
def ev (env : Env) : Operand → Option Value
  | .tmp i => lk env i
  | .const v => some v
  | .global g => some (.pointer (some ⟨g, 0, none⟩))
  | .func f => some (.func (.func f) #[] #[])
def evK (env : Env) (x : Operand) (K : Value → Prop) : Prop := match ev env x with
  | some v => K v
  | none => False
def evAllK (env : Env) : List Operand → (List Value → Prop) → Prop
  | [], K => K []
  | x :: r, K => evK env x fun v => evAllK env r fun vs => K (v :: vs)
def evOptK (env : Env) : Option Operand → (Option Value → Prop) → Prop
  | none, K => K none
  | some x, K => evK env x fun v => K (some v)
/-- The operands' values as the machine has them. -/
def Agrees (ρ : Operand → Value) (env : Env) : Prop := ∀ x v, ev env x = some v → ρ x = v

theorem evK_out {env : Env} {x : Operand} {K : Value → Prop} {ρ : Operand → Value} (hρ : Agrees ρ env) (h : evK env x K) : K (ρ x) := by
  unfold evK at h
  cases he : ev env x with
  | none => rw [he] at h; exact h.elim
  | some v => rw [he] at h; rw [hρ x v he]; exact h
theorem evAllK_out {env : Env} {ρ : Operand → Value} (hρ : Agrees ρ env) : ∀ (l : List Operand) (K : List Value → Prop), evAllK env l K → K (l.map ρ)
  | [], K, h => h
  | x :: r, K, h => evAllK_out hρ r _ (evK_out hρ h)
theorem evOptK_out {env : Env} {ρ : Operand → Value} (hρ : Agrees ρ env) : ∀ (x : Option Operand) (K : Option Value → Prop), evOptK env x K → K (x.map ρ)
  | none, _, h => h
  | some _, _, h => evK_out hρ h

/-! ### 4. Numbers -/
def bitsOf (op : BinOp) (k : IntKind) (x y : Int) : Int :=
  let a := BitVec.ofInt k.bits x
  let b := BitVec.ofInt k.bits y
  match op with
  | .and => k.wrap (a &&& b).toNat
  | .or => k.wrap (a ||| b).toNat
  | .xor => k.wrap (a ^^^ b).toNat
  | _ => k.wrap (a &&& ~~~b).toNat
def shlOf (k : IntKind) (x y : Int) : Int := k.wrap (x * 2 ^ (min y.toNat k.bits))
def shrOf (k : IntKind) (x y : Int) : Int := x.fdiv (2 ^ (min y.toNat k.bits))
def wrapK (k : IntKind) (x : Int) (K : Value → Prop) : Prop := Pick (fun r => r = k.wrap x) fun r => K (.int k r)
def notK (K : Value → Prop) : Bool → Prop
  | true => K (.bool false)
  | false => K (.bool true)
def yesK (K : Value → Prop) : Bool → Prop
  | true => K (.bool true)
  | false => K (.bool false)
def intK (op : BinOp) (k : IntKind) (m n : Int) (K : Value → Prop) : Prop := match op with
  | .add => wrapK k (m + n) K
  | .sub => wrapK k (m - n) K
  | .mul => wrapK k (m * n) K
  | .quo => Need (n ≠ 0) (wrapK k (m.tdiv n) K)
  | .rem => Need (n ≠ 0) (Pick (fun r => r = m.tmod n) fun r => K (.int k r))
  | .and => Pick (fun r => r = bitsOf .and k m n) fun r => K (.int k r)
  | .or => Pick (fun r => r = bitsOf .or k m n) fun r => K (.int k r)
  | .xor => Pick (fun r => r = bitsOf .xor k m n) fun r => K (.int k r)
  | .andNot => Pick (fun r => r = bitsOf .andNot k m n) fun r => K (.int k r)
  | .eql => Split (m = n) (yesK K)
  | .neq => Split (m = n) (notK K)
  | .lss => Split (m < n) (yesK K)
  | .leq => Split (m ≤ n) (yesK K)
  | .gtr => Split (n < m) (yesK K)
  | .geq => Split (n ≤ m) (yesK K)
  | _ => False
def shiftK (op : BinOp) (k : IntKind) (m n : Int) (K : Value → Prop) : Prop := match op with
  | .shl => Need (0 ≤ n) (Pick (fun r => r = shlOf k m n) fun r => K (.int k r))
  | .shr => Need (0 ≤ n) (Pick (fun r => r = shrOf k m n) fun r => K (.int k r))
  | _ => False
def isShift : BinOp → Bool
  | .shl | .shr => true
  | _ => false
def kindEq (k k' : IntKind) : Bool := match decEq k k' with
  | isTrue _ => true
  | isFalse _ => false
def boolK (op : BinOp) (a b : Bool) (K : Value → Prop) : Prop := match op, a, b with
  | .eql, true, true => K (.bool true)
  | .eql, false, false => K (.bool true)
  | .eql, true, false => K (.bool false)
  | .eql, false, true => K (.bool false)
  | .neq, true, true => K (.bool false)
  | .neq, false, false => K (.bool false)
  | .neq, true, false => K (.bool true)
  | .neq, false, true => K (.bool true)
  | _, _, _ => False
def ptrK (op : BinOp) (a b : Option Addr) (K : Value → Prop) : Prop := match op, a, b with
  | .eql, none, none => K (.bool true)
  | .eql, some _, none => K (.bool false)
  | .eql, none, some _ => K (.bool false)
  | .neq, none, none => K (.bool false)
  | .neq, some _, none => K (.bool true)
  | .neq, none, some _ => K (.bool true)
  | _, _, _ => False
def strK (op : BinOp) (a b : ByteArray) (K : Value → Prop) : Prop := match op with
  | .eql => Split (a.toList = b.toList) (yesK K)
  | .neq => Split (a.toList = b.toList) (notK K)
  | _ => False
/-- A struct of numbers alone, held against another: one field behind another. -/
def numsOf : List Value → Option (List Int)
  | [] => some []
  | .int _ n :: r => (numsOf r).map (n :: ·)
  | _ => none

end Go.Proofs.Ytbccpibgjjiikaa
