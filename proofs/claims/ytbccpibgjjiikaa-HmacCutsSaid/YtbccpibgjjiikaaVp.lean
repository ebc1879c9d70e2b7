/-
  What an operation that only reads comes to, as one condition; and that the machine does so.
-/
import Derived.Test.YtbccpibgjjiikaaVo
set_option linter.unusedVariables false
namespace Go.Proofs.Ytbccpibgjjiikaa
variable {G : Cx}

def binK (op : BinOp) (vx vy : Value) (K : Value → Prop) : Prop := match vx, vy with
  | .int k m, .int k' n => match isShift op with
    | true => shiftK op k m n K
    | false => match kindEq k k' with
      | true => intK op k m n K
      | false => False
  | .string a, .string b => strK op a b K
  | _, _ => False
/-- Operands of a type that is no number's and no text's. -/
def eqK (T : Tab) (t : Nat) (op : BinOp) (vx vy : Value) (K : Value → Prop) : Prop := match look T.ts t with
  | some i => match i.d, vx, vy with
    | .bool, .bool a, .bool b => boolK op a b K
    | .ptr _, .pointer a, .pointer b => ptrK op a b K
    | .slice _, .slice a _ _, .slice none _ _ => ptrK op a none K
    | _, _, _ => False
  | none => False
def binopK (T : Tab) (t : Nat) (op : BinOp) (vx vy : Value) (K : Value → Prop) : Prop := match vx with
  | .int _ _ => binK op vx vy K
  | .string _ => binK op vx vy K
  | _ => eqK T t op vx vy K
def unK (op : UnOp) (v : Value) (K : Value → Prop) : Prop := match op, v with
  | .not, .bool true => K (.bool false)
  | .not, .bool false => K (.bool true)
  | .neg, .int k n => wrapK k (0 - n) K
  | .xor, .int k n => Pick (fun r => r = bitsOf .xor k (match k.signed with | true => -1 | false => k.max) n) fun r => K (.int k r)
  | _, _ => False
def nth : List (Nat × Nat) → Nat → Option (Nat × Nat)
  | [], _ => none
  | x :: _, 0 => some x
  | _ :: r, n + 1 => nth r n
/-- A field's place and size. -/
def fieldK (T : Tab) (t f : Nat) (K : Nat → Nat → Nat → Prop) : Prop := match look T.ts t with
  | some i => match i.d with
    | .struct fs => match nth fs f with
      | some (off, ft) => match look T.ts ft with
        | some j => match j.size with
          | 0 => False
          | n + 1 => K off (n + 1) ft
        | none => False
      | none => False
    | _ => False
  | none => False
def moved (a : Addr) (off : Nat) : Addr := match off with
  | 0 => a
  | n + 1 => ⟨a.block, a.off + (n + 1), none⟩
theorem moved_eq (a : Addr) (off : Nat) : a.add off = moved a off := by
  cases off <;> simp [Addr.add, moved]
/-- An element's place: the base, the length, the element's size. -/
def rowK (T : Tab) (t : Nat) (v : Value) (K : Option Addr → Nat → Nat → Prop) : Prop := match look T.ts t with
  | some i => match i.d, v with
    | .arr n e, .pointer (some a) => match n with
      | 0 => False
      | 1 => False
      | _ + 2 => match look T.ts e with
        | some j => K (some a) n j.size
        | none => False
    | .slice e, .slice a n _ => match look T.ts e with
      | some j => K a n j.size
      | none => False
    | _, _ => False
  | none => False
def loadK (G : Cx) (T : Tab) (hs : Hp) (t : Nat) (a : Addr) (K : Value → Prop) : Prop := match look T.ts t with
  | some i => match i.agg with
    | false => Pick (G.cellIs hs a) K
    | true => Pick (fun cs : List Value => cs.length = i.size ∧ G.cellsAre hs a cs) fun cs => K (.agg cs.toArray)
  | none => False
def vnth : List Value → Nat → Option Value
  | [], _ => none
  | x :: _, 0 => some x
  | _ :: r, n + 1 => vnth r n
theorem vnth_eq : ∀ (l : List Value) (n : Nat), l[n]? = vnth l n
  | [], _ => rfl
  | _ :: _, 0 => rfl
  | _ :: r, n + 1 => by simpa [vnth] using vnth_eq r n
def optK (o : Option Value) (K : Value → Prop) : Prop := match o with
  | some v => K v
  | none => False
/-- A bound of a slice expression: a number from 0 to a greatest. -/
def boundK (x : Option Value) (dflt most : Nat) (K : Nat → Prop) : Prop := match x with
  | none => K dflt
  | some (.int _ i) => Need (0 ≤ i ∧ i ≤ (most : Int)) (K i.toNat)
  | some _ => False
/-- What is cut out of a row: where it begins matters only if there is something. -/
def cutK (a : Option Addr) (size l h m : Nat) (K : Value → Prop) : Prop := K (.slice (if m = l then a else a.map (·.add (l * size))) (h - l) (m - l))
def sliceK (T : Tab) (t : Nat) (v : Value) (lo hi mx : Option Value) (K : Value → Prop) : Prop := match look T.ts t with
  | some i => match i.d, v with
    | .slice e, .slice a len cap => match look T.ts e with
      | some j => boundK mx cap cap fun m => match hi, mx with
        | some _, _ => boundK hi len m fun h => boundK lo 0 h fun l => cutK a j.size l h m K
        | none, none => boundK lo 0 len fun l => cutK a j.size l len m K
        | none, some _ => False
      | none => False
    | .arr n e, .pointer (some a) => match look T.ts e with
      | some j => boundK mx n n fun m => match hi, mx with
        | some _, _ => boundK hi n m fun h => boundK lo 0 h fun l => cutK (some a) j.size l h m K
        | none, none => boundK lo 0 n fun l => cutK (some a) j.size l n m K
        | none, some _ => False
      | none => False
    | .str, .string s => match mx with
      | none => match hi with
        | some _ => boundK hi s.size s.size fun h => boundK lo 0 h fun l => K (.string (s.extract l h))
        | none => boundK lo 0 s.size fun l => K (.string (s.extract l s.size))
      | some _ => False
    | _, _ => False
  | none => False
def bytesOf (xs : List Int) : List Value := xs.map fun x => .int .u8 x
def strOf (xs : List Int) : ByteArray := ⟨(xs.map fun x => UInt8.ofNat x.toNat).toArray⟩
def convK (G : Cx) (T : Tab) (hs : Hp) (s d : Nat) (v : Value) (K : Value → Prop) : Prop := match look T.ts s, look T.ts d with
  | some i, some j => match i.d, j.d, v with
    | .int _, .int k, .int _ n => wrapK k n K
    | .str, .str, .string x => K (.string x)
    | .slice e, .str, .slice a n _ => match look T.ts e with
      | some q => match q.d with
        | .int .u8 => Pick (fun xs : List Int => xs.length = n ∧ (0 < n → ∃ ad, a = some ad ∧ G.cellsAre hs ad (bytesOf xs))) fun xs => K (.string (strOf xs))
        | _ => False
      | none => False
    | _, _, _ => False
  | _, _ => False
def minK (K : Value → Prop) (v w : Value) : Prop := match v, w with
  | .int k x, .int k' y => match kindEq k k' with
    | true => K (.int k (min x y))
    | false => False
  | _, _ => False
def maxK (K : Value → Prop) (v w : Value) : Prop := match v, w with
  | .int k x, .int k' y => match kindEq k k' with
    | true => K (.int k (max x y))
    | false => False
  | _, _ => False
def lenK (T : Tab) (t : Nat) (v : Value) (K : Value → Prop) : Prop := match look T.ts t with
  | some i => match i.d, v with
    | .str, .string s => K (.int .i64 s.size)
    | .slice _, .slice _ n _ => K (.int .i64 n)
    | .arr n _, _ => K (.int .i64 n)
    | _, _ => False
  | none => False
def quietCallK (T : Tab) (b : Builtin) (ts : List Nat) (vs : List Value) (K : Value → Prop) : Prop := match b, ts, vs with
  | .len, t :: _, v :: _ => lenK T t v K
  | .min, _, [v, w] => minK K v w
  | .max, _, [v, w] => maxK K v w
  | _, _, _ => False
/-- A struct's fields or an array's elements laid into a value. -/
def setL : List Value → Nat → Value → List Value
  | [], _, _ => []
  | _ :: r, 0, v => v :: r
  | x :: r, n + 1, v => x :: setL r n v
def setK : List Value → Nat → Value → (List Value → Prop) → Prop
  | [], _, _, K => K []
  | _ :: r, 0, v, K => K (v :: r)
  | x :: r, n + 1, v, K => setK r n v fun r' => K (x :: r')
theorem setK_out {v : Value} : ∀ (l : List Value) (n : Nat) (K : List Value → Prop), setK l n v K → K (l.set n v)
  | [], _, _, h => h
  | _ :: _, 0, _, h => h
  | _ :: r, n + 1, K, h => setK_out r n _ h
/-- Several cells laid at a place, one behind another. -/
def layK (K : List Value → Prop) : List Value → List Value → Nat → Prop
  | l, [], _ => K l
  | l, v :: vs, n => setK l n v fun l' => layK K l' vs (n + 1)
def cellsL : Value → List Value
  | .agg cs => cs.toList
  | v => [v]
def partsK (place : Nat → (Nat → Nat → Prop) → Prop) (K : List Value → Prop) : List Value → List (Nat × Value) → Prop
  | l, [] => K l
  | l, (i, v) :: r => place i fun off size => Need ((cellsL v).length = size ∧ off + size ≤ l.length) (layK (fun l' => partsK place K l' r) l (cellsL v) off)
def evPartsK (env : Env) : List (Nat × Operand) → (List (Nat × Value) → Prop) → Prop
  | [], K => K []
  | (i, x) :: r, K => evK env x fun v => evPartsK env r fun vs => K ((i, v) :: vs)
def buildK (T : Tab) (t : Nat) (parts : List (Nat × Value)) (K : Value → Prop) : Prop := match look T.ts t with
  | some i => match i.d with
    | .struct fs => partsK (fun n k => match nth fs n with
        | some (off, ft) => match look T.ts ft with
          | some j => k off j.size
          | none => False
        | none => False) (fun l => K (.agg l.toArray)) i.zero parts
    | .arr n e => match look T.ts e with
      | some j => partsK (fun q k => k (q * j.size) j.size) (fun l => K (.agg l.toArray)) i.zero parts
      | none => False
    | _ => False
  | none => False

/-- The operations that only read. -/
def pvc (G : Cx) (T : Tab) (hs : Hp) (env : Env) (op : Op) (K : Value → Prop) : Prop := match op with
  | .move x => evK env x K
  | .assign x => evK env x K
  | .pick c a b => evK env c fun
    | .bool true => evK env a K
    | .bool false => evK env b K
    | _ => False
  | .binOp op t x y _ => evK env x fun vx => evK env y fun vy => binopK T t op vx vy K
  | .unOp op _ x => evK env x fun v => unK op v K
  | .nilCheck x => evK env x fun
    | .pointer (some a) => K (.pointer (some a))
    | _ => False
  | .fieldAddr s x f => evK env x fun
    | .pointer (some a) => fieldK T s f fun off _ _ => K (.pointer (some (moved a off)))
    | _ => False
  | .indexAddr t x i => evK env x fun v => evK env i fun
    | .int _ n => rowK T t v fun a len size => Need (0 ≤ n ∧ n < (len : Int)) (match a with
      | some a => K (.pointer (some (a.add (n.toNat * size))))
      | none => False)
    | _ => False
  | .index t x i => evK env x fun v => evK env i fun
    | .int _ n => match v with
      | .string s => match look T.ts t with
        | some q => match q.d with
          | .str => Need (0 ≤ n ∧ n < (s.size : Int)) (K (.int .u8 (s.data.toList.getD n.toNat 0).toNat))
          | _ => False
        | none => False
      | _ => False
    | _ => False
  | .load t x => evK env x fun
    | .pointer (some a) => loadK G T hs t a K
    | _ => False
  | .extract x i => evK env x fun
    | .tuple vs => optK (vnth vs.toList i) K
    | _ => False
  | .convert s d x => evK env x fun v => convK G T hs s d v K
  | .slice t x lo hi mx => evK env x fun v => evOptK env lo fun lo => evOptK env hi fun hi => evOptK env mx fun mx => sliceK T t v lo hi mx K
  | .sliceToArrayPointer t x => evK env x fun
    | .slice a n _ => match look T.ts t with
      | some i => match i.d with
        | .arr len _ => Need (len ≤ n) (K (.pointer a))
        | _ => False
      | none => False
    | _ => False
  | .makeFunc fn first captured => evAllK env first.toList fun f => evAllK env captured.toList fun c => K (.func fn f.toArray c.toArray)
  | .build t parts => evPartsK env parts.toList fun vs => buildK T t vs K
  | .call c => match c.callee with
    | .builtin b => evAllK env c.args.toList fun vs => quietCallK T b c.argTypes.toList vs K
    | _ => False
  | _ => False

end Go.Proofs.Ytbccpibgjjiikaa
