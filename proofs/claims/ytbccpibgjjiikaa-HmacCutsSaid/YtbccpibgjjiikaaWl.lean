/-
  Calls that change blocks handed to them; rows of cells in a world.
-/
import Derived.Test.YtbccpibgjjiikaaWk
set_option linter.unusedVariables false
set_option linter.unusedSimpArgs false
namespace Go.Proofs.Ytbccpibgjjiikaa
open Go
variable {G : Cx} {T : Tab} {hs : Hp}

/-- The blocks of entries. -/
abbrev ids (hs : Hp) : List Nat := hs.map (·.b)
/-- A call that may change the blocks of the entries 'pre', known at its begin. -/
structure Mut (P : Program) (f : Nat) (args : List Value) (w : World) (pre : Hp) (R : Value → Hp → Prop) : Prop where wrap ::
  calls : Calls P f args.toArray w (Post ⟨P, w, ids pre⟩ R)
theorem mut_vc {P : Program} {f : Nat} {fn : Func} {c : Code} {args : List Value} {w : World} {pre : Hp} {K : Value → Hp → Prop} (hT : TabOK P T) (hfn : P.funcs[f]? = some fn) (hb : fn.body = some c)
    (hn : Nat.ble args.length fn.ntmps = true) (hw : St ⟨P, w, ids pre⟩ pre w)
    (h : codeVC ⟨P, w, ids pre⟩ T fn.ntmps c (mkEnv args 0) pre (retK ⟨P, w, ids pre⟩ T fn.results.toList fun v hs => Done (K v hs)) (fun _ _ _ => False) (retK ⟨P, w, ids pre⟩ T fn.results.toList fun v hs => Done (K v hs))) :
    Mut P f args w pre K :=
  ⟨calls_vc rfl hT hfn hb hn hw h⟩
theorem St.only {w : World} {pre rest : Hp} (h : St G hs w) (hp : hs.Perm (pre ++ rest)) : St ⟨G.P, w, ids pre⟩ pre w := by
  have h' := h.perm hp
  exact ⟨rfl, rfl, rfl, Nat.le_refl _, fun _ _ _ => rfl, fun e he => h'.own e (List.mem_append_left _ he), (List.nodup_append.1 (by simpa using h'.nodup)).1, fun e he => .inr (List.mem_map_of_mem he)⟩
theorem St.transM {w w' : World} {pre rest hs2 : Hp} (h : St G hs w) (hp : hs.Perm (pre ++ rest)) (h2 : St ⟨G.P, w, ids pre⟩ hs2 w') : St G (hs2 ++ rest) w' := by
  have h' := h.perm hp
  have hn : (ids pre ++ ids rest).Nodup := by simpa using h'.nodup
  obtain ⟨hn1, hn2, hn3⟩ := List.nodup_append.1 hn
  refine ⟨h2.os.trans h.os, h2.tape.trans h.tape, h2.output.trans h.output, Nat.le_trans h.size h2.size, ?_, ?_, ?_, ?_⟩
  · intro b hb hf
    rw [← h.old b hb hf]
    refine h2.old b (Nat.lt_of_lt_of_le hb h.size) (fun hm => ?_)
    obtain ⟨e, he, rfl⟩ := List.mem_map.1 hm
    rcases h'.new e (List.mem_append_left _ he) with h1 | h1
    · omega
    · exact hf h1
  · intro e he
    rcases List.mem_append.1 he with he | he
    · exact h2.own e he
    · have hm := List.mem_append_right pre he
      rw [← h'.own e hm]
      refine h2.old e.b (h'.lt hm) (fun hx => ?_)
      exact hn3 _ hx _ (List.mem_map_of_mem he) rfl
  · rw [List.map_append]
    refine List.nodup_append.2 ⟨h2.nodup, hn2, fun a ha b hb hab => ?_⟩
    obtain ⟨e, he, rfl⟩ := List.mem_map.1 ha
    obtain ⟨e', he', rfl⟩ := List.mem_map.1 hb
    have hm := List.mem_append_right pre he'
    rcases h2.new e he with h1 | h1
    · have := h'.lt hm
      have : w.heap.size ≤ e.b := h1
      omega
    · exact hn3 _ h1 _ (List.mem_map_of_mem he') hab
  · intro e he
    rcases List.mem_append.1 he with he | he
    · rcases h2.new e he with h1 | h1
      · exact .inl (Nat.le_trans h.size h1)
      · obtain ⟨e', he', hb⟩ := List.mem_map.1 h1
        rw [← hb]
        exact h'.new e' (List.mem_append_left _ he')
    · exact h'.new e (List.mem_append_right _ he)
/-- A callee that changes what it is handed. -/
theorem CallVC.mut {f : Nat} {args : List Value} {K R : Value → Hp → Prop} (pre rest : Hp) (hp : hs.Perm (pre ++ rest))
    (hc : ∀ w, St G hs w → St ⟨G.P, w, ids pre⟩ pre w → Mut G.P f args w pre R) (hk : ∀ v hs2, R v hs2 → K v (hs2 ++ rest)) : CallVC G hs f args K := by
  refine ⟨fun v hs' => ∃ hs2, hs' = hs2 ++ rest ∧ R v hs2, fun w hw => ?_, fun v hs' ⟨hs2, e, hr⟩ => e ▸ hk v hs2 hr⟩
  have h1 := (hc w hw (hw.only hp)).calls
  intro cs
  obtain ⟨e, w', fr, ⟨v, hs2, he, hr, hst⟩, hx⟩ := h1 cs
  exact ⟨e, w', fr, ⟨v, hs2 ++ rest, he, ⟨hs2, rfl, hr⟩, hw.transM hp hst⟩, hx⟩

/-! ### Rows -/
/-- Cells behind one another, in a world. -/
def At (w : World) (A : Option Addr) (xs : List Value) : Prop := ∀ i x, xs[i]? = some x → ∃ a, A = some a ∧ w.cell? (a.add i) = some x
/-- A slice's cells, in a world. -/
inductive Row (w : World) : Value → List Value → Prop
  | mk (A : Option Addr) (xs : List Value) (n c : Nat) (hn : xs.length = n) (h : At w A xs) : Row w (.slice A n c) xs
theorem At.nil {w : World} {A : Option Addr} : At w A [] := fun i x h => by simp at h
/-- The same in all worlds that are such. -/
def Cx.rows (G : Cx) (hs : Hp) (v : Value) (xs : List Value) : Prop := ∀ w, St G hs w → Row w v xs
theorem At.old {w w' : World} {A : Option Addr} {xs : List Value} {fp : List Nat} {P : Program} {hs : Hp} (h : At w A xs) (hs' : St ⟨P, w, fp⟩ hs w') (hd : ∀ a, A = some a → a.block ∉ fp) : At w' A xs := by
  intro i x hx
  obtain ⟨a, rfl, hc⟩ := h i x hx
  refine ⟨a, rfl, ?_⟩
  have : (⟨P, w, fp⟩ : Cx).cellIs hs (a.add i) x := cellIs_old hc (by
    have := hd a rfl
    cases i <;> exact this)
  exact this w' hs'
theorem cellsAre_of_at {A : Option Addr} {a : Addr} {xs : List Value} (hA : A = some a) (h : At G.w0 A xs) (hd : a.block ∉ G.fp) : G.cellsAre hs a xs := by
  intro i x hx
  obtain ⟨a', ha, hc⟩ := h i x hx
  obtain rfl := Option.some.inj (hA.symm.trans ha)
  exact cellIs_old hc (by cases i <;> exact hd)
/-- A row handed to the call, as append and copy take it. -/
theorem Holds.at {A : Option Addr} {n c : Nat} {xs : List Value} (hn : xs.length = n) (h : At G.w0 A xs) (hd : ∀ a, A = some a → a.block ∉ G.fp) : Holds G hs 1 (.slice A n c) n xs := by
  subst hn
  cases xs with
  | nil => exact Holds.nil A c
  | cons x r =>
    obtain ⟨a, rfl, _⟩ := h 0 x rfl
    exact Holds.row (by simp) (cellsAre_of_at rfl h (hd a rfl))
theorem cell_of_at {A : Option Addr} {a : Addr} {xs : List Value} {i : Nat} {x : Value} (hA : A = some a) (h : At G.w0 A xs) (hd : a.block ∉ G.fp) (hx : xs[i]? = some x) : G.cellIs hs (a.add i) x :=
  cellsAre_of_at hA h hd i x hx
/-- A block of the call's own, or one handed to it, as a row. -/
theorem Holds.own {b n c : Nat} {cs xs : List Value} {t : TypeId} {fr : Nat × Nat} (hm : (⟨b, cs, t, fr⟩ : Ent) ∈ hs) (off : Nat) (hx : (cs.drop off).take n = xs) (hn : xs.length = n) : Holds G hs 1 (.slice (some ⟨b, off, none⟩) n c) n xs := by
  refine Holds.row (by omega) (cellsAre_at hm fun i v hv => ?_)
  subst hx
  rw [List.getElem?_take] at hv
  split at hv
  · rwa [List.getElem?_drop] at hv
  · cases hv
theorem row_own {b n c : Nat} {cs xs : List Value} {t : TypeId} {fr : Nat × Nat} (hm : (⟨b, cs, t, fr⟩ : Ent) ∈ hs) (off : Nat) (hx : (cs.drop off).take n = xs) (hn : xs.length = n) : G.rows hs (.slice (some ⟨b, off, none⟩) n c) xs := by
  intro w hw
  refine Row.mk _ _ _ _ hn (fun i x hi => ⟨_, rfl, ?_⟩)
  subst hx
  rw [List.getElem?_take] at hi
  split at hi
  · rw [add_plain, hw.cell hm, ← List.getElem?_drop]; exact hi
  · cases hi
theorem rows_old {v : Value} {xs : List Value} (h : Row G.w0 v xs) (hd : ∀ A n c a, v = .slice A n c → A = some a → a.block ∉ G.fp) : G.rows hs v xs := by
  intro w hw
  cases h with
  | mk A xs n c hn h => exact Row.mk _ _ _ _ hn (h.old hw (fun a ha => hd A n c a rfl ha))
theorem rows_sub {hs' : Hp} {v : Value} {xs : List Value} (h : G.rows hs v xs) (hs2 : hs.Sublist hs') : G.rows hs' v xs := fun w hw => h w (hw.sub hs2)
theorem rows_perm {hs' : Hp} {v : Value} {xs : List Value} (h : G.rows hs v xs) (hp : hs'.Perm hs) : G.rows hs' v xs := fun w hw => h w (hw.perm hp)
/-- Cells of one sort lie in no block whose cells are all of another. -/
theorem apart_of {w : World} {a : Addr} {xs : List Value} {e : Ent} {i : Nat} {x : Value} (hc : w.cell? (a.add i) = some x) (he : w.heap[e.b]? = some (.cells e.cs.toArray e.t e.fr)) (hn : ∀ y ∈ e.cs, y ≠ x) : a.block ≠ e.b := by
  intro hb
  have e1 : (a.add i).block = a.block := by cases i <;> rfl
  simp only [World.cell?, e1, hb, he] at hc
  split at hc
  · cases hc
  · exact hn x (by have := List.mem_of_getElem? (by simpa using hc); exact this) rfl
end Go.Proofs.Ytbccpibgjjiikaa
