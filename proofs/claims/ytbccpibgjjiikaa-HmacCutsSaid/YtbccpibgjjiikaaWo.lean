/-
  Rows cut; what is known of blocks that a call reads.
-/
import Derived.Test.YtbccpibgjjiikaaWn
set_option linter.unusedVariables false
set_option linter.unusedSimpArgs false
namespace Go.Proofs.Ytbccpibgjjiikaa
open Go
section cut
variable {G : Cx} {T : Tab} {hs : Hp}
theorem add_add (a : Addr) (l i : Nat) : (a.add l).add i = a.add (l + i) := by
  rw [moved_eq, moved_eq, moved_eq]
  cases l with
  | zero => rw [Nat.zero_add]; rfl
  | succ l =>
    cases i with
    | zero => rfl
    | succ i =>
      show (⟨a.block, a.off + (l + 1) + (i + 1), none⟩ : Addr) = ⟨a.block, a.off + (l + 1 + i + 1), none⟩
      congr 1
      omega
theorem At.cut {w : World} {A : Option Addr} {xs : List Value} {c l : Nat} (h : At w A xs) (hc : xs.length ≤ c) : At w (if c = l then A else A.map (·.add (l * 1))) (xs.drop l) := by
  intro i x hx
  rw [List.getElem?_drop] at hx
  have hlt := (List.getElem?_eq_some_iff.1 hx).1
  obtain ⟨a, rfl, hcell⟩ := h (l + i) x hx
  rw [if_neg (by omega), Nat.mul_one]
  exact ⟨_, rfl, by rw [add_add]; exact hcell⟩
theorem At.take {w : World} {A : Option Addr} {xs : List Value} (h : At w A xs) (n : Nat) : At w A (xs.take n) := by
  intro i x hx
  rw [List.getElem?_take] at hx
  split at hx
  · exact h i x hx
  · cases hx
theorem At.is {w : World} {A : Option Addr} {xs : List Value} (h : At w A xs) (hn : 0 < xs.length) : ∃ a, A = some a := by
  obtain ⟨a, ha, _⟩ := h 0 xs[0] (by simp)
  exact ⟨a, ha⟩
theorem At.cutB {w : World} {A : Option Addr} {xs : List B8} {c l : Nat} (h : At w A (xs.map b8)) (hc : xs.length ≤ c) : At w (if c = l then A else A.map (·.add (l * 1))) ((xs.drop l).map b8) := by
  rw [List.map_drop]; exact h.cut (by simpa using hc)
theorem At.takeB {w : World} {A : Option Addr} {xs : List B8} (h : At w A (xs.map b8)) (n : Nat) : At w A ((xs.take n).map b8) := by
  rw [List.map_take]; exact h.take n
/-- A block that lies at the call's begin, and is not changed. -/
theorem cell_known {p i : Nat} {cs : List Value} {v : Value} (h : At G.w0 (some ⟨p, 0, none⟩) cs) (hp : p ∉ G.fp) (hv : cs[i]? = some v) : G.cellIs hs ⟨p, i, none⟩ v := by
  obtain ⟨a, ha, hc⟩ := h i v hv
  obtain rfl := Option.some.inj ha
  rw [add_plain, Nat.zero_add] at hc
  exact cellIs_old hc hp
theorem part_known {p off n : Nat} {cs : List Value} (h : At G.w0 (some ⟨p, 0, none⟩) cs) (hp : p ∉ G.fp) (hl : ((cs.drop off).take n).length = n) : ((cs.drop off).take n).length = n ∧ G.cellsAre hs ⟨p, off, none⟩ ((cs.drop off).take n) := by
  refine ⟨hl, fun i v hv => ?_⟩
  rw [List.getElem?_take] at hv
  split at hv
  · rw [List.getElem?_drop] at hv
    rw [add_plain]
    exact cell_known h hp hv
  · cases hv
/-- A row of bytes lies in no block that holds none. -/
theorem At.apart {w : World} {A : Option Addr} {xs : List B8} {e : Ent} (h : At w A (xs.map b8)) (hx : xs ≠ []) (he : w.heap[e.b]? = some (.cells e.cs.toArray e.t e.fr)) (hn : ∀ y ∈ e.cs, ∀ x : B8, y ≠ b8 x) : ∀ a, A = some a → a.block ≠ e.b := by
  intro a ha
  cases xs with
  | nil => exact absurd rfl hx
  | cons x r =>
    obtain ⟨a', ha', hc⟩ := h 0 (b8 x) rfl
    obtain rfl := Option.some.inj (ha.symm.trans ha')
    exact apart_of (xs := []) (i := 0) hc he (fun y hy => hn y hy x)
theorem LoopVC.perm {body : Env → Hp → (Env → Hp → Prop) → Prop} {env : Env} {hs' : Hp} (hp : hs.Perm hs') (h : LoopVC G body env hs') : LoopVC G body env hs := by
  obtain ⟨I, ⟨n, env1, hs1, h1, h2, h3⟩, h4⟩ := h.raw
  exact ⟨I, ⟨n, env1, hs1, h1, fun w hw => h2 w (hw.perm hp), h3⟩, h4⟩
end cut
end Go.Proofs.Ytbccpibgjjiikaa
