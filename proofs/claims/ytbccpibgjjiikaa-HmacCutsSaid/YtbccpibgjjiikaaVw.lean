/-
  The operations that write, make memory or call: what is asked, and when it holds.
-/
import Derived.Test.YtbccpibgjjiikaaVa
set_option linter.unusedVariables false
set_option linter.unusedSimpArgs false
namespace Go.Proofs.Ytbccpibgjjiikaa
variable {G : Cx} {hs : Hp} {T : Tab} {env : Env} {ρ : Operand → Value}

/-- From every such world the machine goes on, to such a world. -/
def Does (G : Cx) {α : Type} (m : Sem α) (hs : Hp) (K : α → Hp → Prop) : Prop :=
  ∀ w, St G hs w → ∃ a w' hs', m.run G.P w = .ok a w' ∧ St G hs' w' ∧ K a hs'
theorem does_of_svc {α : Type} {m : Sem α} {K : α → Hp → Prop} (h : svc G m hs K) : Does G m hs K := svc_sound m hs K h
theorem run_bind {P : Program} {α β : Type} (m : Sem α) (f : α → Sem β) {w w' : World} {a : α} (h : m.run P w = .ok a w') : (m.bind f).run P w = (f a).run P w' := by
  have := Sem.run_bind (P := P) w m f
  simp only [bind] at this
  rw [this, h]
  rfl
theorem Does.bind {α β : Type} {m : Sem α} {f : α → Sem β} {K : β → Hp → Prop} (h : Does G m hs fun a hs' => Does G (f a) hs' K) : Does G (m.bind f) hs K := by
  intro w hw
  obtain ⟨a, w1, hs1, hr, hw1, h1⟩ := h w hw
  obtain ⟨b, w2, hs2, hr2, hw2, h2⟩ := h1 w1 hw1
  exact ⟨b, w2, hs2, by rw [run_bind _ _ hr]; exact hr2, hw2, h2⟩
theorem Does.pure {α : Type} {a : α} {K : α → Hp → Prop} (h : K a hs) : Does G (Pure.pure a : Sem α) hs K := fun w hw => ⟨a, w, hs, rfl, hw, h⟩
theorem Does.mono {α : Type} {m : Sem α} {K K' : α → Hp → Prop} (h : Does G m hs K) (hk : ∀ a hs, K a hs → K' a hs) : Does G m hs K' := fun w hw => by
  obtain ⟨a, w1, hs1, hr, hw1, h1⟩ := h w hw
  exact ⟨a, w1, hs1, hr, hw1, hk _ _ h1⟩
/-- What is known may be said otherwise behind it. -/
theorem Does.turn {α : Type} {m : Sem α} {K K' : α → Hp → Prop} (h : Does G m hs K) (hk : ∀ a hs w, K a hs → St G hs w → ∃ hs', St G hs' w ∧ K' a hs') : Does G m hs K' := fun w hw => by
  obtain ⟨a, w1, hs1, hr, hw1, h1⟩ := h w hw
  obtain ⟨hs2, hw2, h2⟩ := hk _ _ _ h1 hw1
  exact ⟨a, w1, hs2, hr, hw2, h2⟩
theorem does_of_qvc {α : Type} {m : Sem α} {K : α → Prop} (h : qvc G m hs K) : Does G m hs (fun a hs' => K a ∧ hs' = hs) := does_of_svc (svc_of_qvc _ _ _ h)
theorem Does.quiet {α : Type} {m : Sem α} {K : α → Hp → Prop} (h : qvc G m hs fun a => K a hs) : Does G m hs K := (does_of_qvc h).mono fun a hs' hh => hh.2 ▸ hh.1

/-- An entry is exchanged for another one of its block. -/
inductive Upd (e e' : Ent) : Hp → Hp → Prop
  | head (r : Hp) : Upd e e' (e :: r) (e' :: r)
  | tail (x : Ent) {r r' : Hp} : Upd e e' r r' → Upd e e' (x :: r) (x :: r')
theorem Upd.mem {e e' : Ent} {hs hs' : Hp} (h : Upd e e' hs hs') : e ∈ hs := by
  induction h with
  | head r => exact List.mem_cons_self ..
  | tail x _ ih => exact List.mem_cons_of_mem _ ih
theorem Upd.ids {e e' : Ent} {hs hs' : Hp} (h : Upd e e' hs hs') (hb : e'.b = e.b) : hs'.map (·.b) = hs.map (·.b) := by
  induction h with
  | head r => simp [hb]
  | tail x _ ih => simp [ih]
theorem Upd.mem' {e e' : Ent} {hs hs' : Hp} (h : Upd e e' hs hs') (hn : (hs.map (·.b)).Nodup) : ∀ x ∈ hs', x = e' ∨ (x ∈ hs ∧ x.b ≠ e.b) := by
  induction h with
  | head r =>
    intro x hx
    rcases List.mem_cons.1 hx with rfl | hx
    · exact .inl rfl
    · refine .inr ⟨List.mem_cons_of_mem _ hx, fun hb => ?_⟩
      simp only [List.map_cons, List.nodup_cons] at hn
      exact hn.1 (List.mem_map.2 ⟨x, hx, hb⟩)
  | tail y hu ih =>
    intro x hx
    simp only [List.map_cons, List.nodup_cons] at hn
    rcases List.mem_cons.1 hx with rfl | hx
    · refine .inr ⟨List.mem_cons_self .., fun hb => hn.1 (List.mem_map.2 ⟨e, hu.mem, hb.symm⟩)⟩
    · rcases ih hn.2 x hx with rfl | ⟨h1, h2⟩
      · exact .inl rfl
      · exact .inr ⟨List.mem_cons_of_mem _ h1, h2⟩
theorem getD_spot (a : Addr) (h : a.spot = none) : a.spot.isSome = false := by rw [h]; rfl
theorem St.set_ {w : World} (hw : St G hs w) {b : Nat} {cs : List Value} {t : TypeId} {fr : Nat × Nat} {hs' : Hp} {off : Nat} {v : Value} (hu : Upd ⟨b, cs, t, fr⟩ ⟨b, cs.set off v, t, fr⟩ hs hs') :
    St G hs' (w.setCell ⟨b, off, none⟩ v) := by
  have hm := hu.mem
  have hb := hw.own _ hm
  have hsame : ∀ k, k ≠ b → (w.setCell ⟨b, off, none⟩ v).heap[k]? = w.heap[k]? := fun k hk => RowKit.Below.heap_setCell w _ v k hk
  refine ⟨hw.os, hw.tape, hw.output, ?_, ?_, ?_, ?_, ?_⟩
  · simpa [World.setCell] using hw.size
  · intro k hk hf
    have hne : k ≠ b := by
      rintro rfl
      rcases hw.new _ hm with h | h
      · have : G.w0.heap.size ≤ k := h
        omega
      · exact hf h
    rw [hsame k hne]
    exact hw.old k hk hf
  · intro x hx
    rcases hu.mem' hw.nodup x hx with rfl | ⟨h1, h2⟩
    · show (w.heap.modify b _)[b]? = _
      rw [Array.getElem?_modify, if_pos rfl, hb]
      simp
    · rw [hsame x.b h2]
      exact hw.own x h1
  · rw [hu.ids rfl]; exact hw.nodup
  · intro x hx
    rcases hu.mem' hw.nodup x hx with rfl | ⟨h1, h2⟩
    · exact hw.new ⟨b, cs, t, fr⟩ hm
    · exact hw.new x h1

theorem St.cell {w : World} (hw : St G hs w) {b : Nat} {cs : List Value} {t : TypeId} {fr : Nat × Nat} (hm : (⟨b, cs, t, fr⟩ : Ent) ∈ hs) (off : Nat) : w.cell? ⟨b, off, none⟩ = cs[off]? := by
  simp [World.cell?, hw.own _ hm]
theorem St.frozen {w : World} (hw : St G hs w) {b : Nat} {cs : List Value} {t : TypeId} {fr : Nat × Nat} (hm : (⟨b, cs, t, fr⟩ : Ent) ∈ hs) (off : Nat) : w.frozen? ⟨b, off, none⟩ = (fr.1 ≤ off && off < fr.2) := by
  simp [World.frozen?, hw.own _ hm]
theorem cellIs_at {b off : Nat} {cs : List Value} {t : TypeId} {fr : Nat × Nat} {v : Value} (hm : (⟨b, cs, t, fr⟩ : Ent) ∈ hs) (hv : cs[off]? = some v) : G.cellIs hs ⟨b, off, none⟩ v :=
  fun w hw => (hw.cell hm off).trans hv
theorem add_plain (b off i : Nat) : (⟨b, off, none⟩ : Addr).add i = ⟨b, off + i, none⟩ := by
  cases i <;> simp [Addr.add]
theorem cellsAre_at {b off : Nat} {cs vs : List Value} {t : TypeId} {fr : Nat × Nat} (hm : (⟨b, cs, t, fr⟩ : Ent) ∈ hs) (hv : ∀ i v, vs[i]? = some v → cs[off + i]? = some v) : G.cellsAre hs ⟨b, off, none⟩ vs :=
  fun i v h w hw => by rw [add_plain]; exact (hw.cell hm _).trans (hv i v h)
theorem cellsAre_whole {b : Nat} {cs : List Value} {t : TypeId} {fr : Nat × Nat} (hm : (⟨b, cs, t, fr⟩ : Ent) ∈ hs) : G.cellsAre hs ⟨b, 0, none⟩ cs :=
  cellsAre_at hm fun i v h => by rw [Nat.zero_add]; exact h
/-- Cells of the world at the call's begin. -/
theorem cellIs_old {a : Addr} {v : Value} (h : G.w0.cell? a = some v) (hf : a.block ∉ G.fp) : G.cellIs hs a v := by
  intro w hw
  have hlt : a.block < G.w0.heap.size := World.block_lt_of_cell? G.w0 a h
  rw [← h]
  exact World.cell?_of_block (w := G.w0) (hw.old _ hlt hf)

/-! ### Stores -/
structure StoreVC (G : Cx) (hs : Hp) (a : Addr) (vs : List Value) (K : Hp → Prop) : Prop where wrap ::
  raw : Does G (storeCells a vs) hs fun _ hs' => K hs'
theorem StoreVC_eq (G : Cx) (hs : Hp) (a : Addr) (vs : List Value) (K : Hp → Prop) : StoreVC G hs a vs K = (Does G (storeCells a vs) hs fun _ hs' => K hs') := propext ⟨fun h => h.raw, fun h => ⟨h⟩⟩
theorem storeCells_does {b : Nat} {t : TypeId} {fr : Nat × Nat} : ∀ (vs cs : List Value) (off i : Nat) (hs hs' : Hp), vs.all one = true → off + i + vs.length ≤ cs.length →
    (∀ j, off + i ≤ j → j < off + i + vs.length → (fr.1 ≤ j && j < fr.2) = false) → Upd ⟨b, cs, t, fr⟩ ⟨b, layL vs cs (off + i), t, fr⟩ hs hs' →
    Does G (storeCells ⟨b, off, none⟩ vs i) hs (fun _ h => h = hs')
  | [], cs, off, i, hs, hs', _, _, _, hu => fun w hw => ⟨(), w, hs, rfl, hw, by
      have : ∀ {h1 h2 : Hp}, Upd (⟨b, cs, t, fr⟩ : Ent) ⟨b, cs, t, fr⟩ h1 h2 → h1 = h2 := by
        intro h1 h2 hh
        generalize he : (⟨b, cs, t, fr⟩ : Ent) = e at hh
        induction hh with
        | head r => rfl
        | tail x _ ih => rw [ih]
      exact this hu⟩
  | v :: vs, cs, off, i, hs, hs', h1, hl, hf, hu => by
    simp only [List.all_cons, Bool.and_eq_true] at h1
    simp only [List.length_cons] at hl hf
    have hm := hu.mem
    have step : ∀ {h1 : Hp} {h2 : Hp} {cs2 : List Value}, Upd (⟨b, cs, t, fr⟩ : Ent) ⟨b, cs2, t, fr⟩ h1 h2 → ∀ cs1, ∃ h3, Upd (⟨b, cs, t, fr⟩ : Ent) ⟨b, cs1, t, fr⟩ h1 h3 ∧ Upd (⟨b, cs1, t, fr⟩ : Ent) ⟨b, cs2, t, fr⟩ h3 h2 := by
      intro h1 h2 cs2 hh cs1
      generalize he : (⟨b, cs, t, fr⟩ : Ent) = e at hh
      generalize he' : (⟨b, cs2, t, fr⟩ : Ent) = e' at hh
      induction hh with
      | head r => exact ⟨_, .head r, .head r⟩
      | tail x _ ih => obtain ⟨h3, ha, hb⟩ := ih; exact ⟨_, .tail x ha, .tail x hb⟩
    simp only [layL] at hu
    obtain ⟨hs1, hu1, hu2⟩ := step hu (cs.set (off + i) v)
    have ih := storeCells_does vs (cs.set (off + i) v) off (i + 1) hs1 hs' h1.2 (by simp; omega) (fun j hj1 hj2 => hf j (by omega) (by omega)) (by rw [show off + (i + 1) = off + i + 1 by omega]; exact hu2)
    refine Does.bind (m := store ((⟨b, off, none⟩ : Addr).add i) v) (f := fun _ => storeCells ⟨b, off, none⟩ vs (i + 1)) ?_
    refine does_of_svc ?_
    refine ⟨h1.1, hs1, ?_, ih⟩
    intro w hw
    rw [add_plain]
    refine ⟨?_, ?_, hw.set_ hu1⟩
    · rw [hw.cell hm]; rw [List.getElem?_eq_getElem (by omega)]; rfl
    · rw [hw.frozen hm]; exact hf _ (by omega) (by omega)
/-- No cell of the block is frozen. -/
def Soft (fr : Nat × Nat) (n : Nat) : Prop := fr.2 = 0 ∨ n ≤ fr.1
theorem Soft.at_ {fr : Nat × Nat} {n j : Nat} (h : Soft fr n) (hj : j < n) : (fr.1 ≤ j && j < fr.2) = false := by
  rcases h with h | h
  · simp [h]
  · simp; omega
theorem soft0 {n : Nat} : Soft (0, 0) n := .inl rfl
theorem StoreVC.at_ {b off : Nat} {cs vs : List Value} {t : TypeId} {fr : Nat × Nat} {hs' : Hp} {K : Hp → Prop} (hu : Upd ⟨b, cs, t, fr⟩ ⟨b, layL vs cs off, t, fr⟩ hs hs') (hfr : Soft fr cs.length) (h1 : vs.all one = true)
    (hl : off + vs.length ≤ cs.length) (h : K hs') : StoreVC G hs ⟨b, off, none⟩ vs K := by
  rw [StoreVC_eq]
  refine (storeCells_does (fr := fr) vs cs off 0 hs hs' h1 (by omega) (fun j _ hj => hfr.at_ (by omega)) (by rw [Nat.add_zero]; exact hu)).mono fun _ h' he => by rw [he]; exact h

/-- An entry taken out. -/
inductive Take (e : Ent) : Hp → Hp → Prop
  | head (r : Hp) : Take e (e :: r) r
  | tail (x : Ent) {r r' : Hp} : Take e r r' → Take e (x :: r) (x :: r')
theorem Take.perm {e : Ent} {hs r : Hp} (h : Take e hs r) : hs.Perm (e :: r) := by
  induction h with
  | head r => exact .refl _
  | tail x _ ih => exact (ih.cons x).trans (.swap ..)
theorem St.perm {hs hs' : Hp} {w : World} (h : St G hs w) (hp : hs.Perm hs') : St G hs' w :=
  ⟨h.os, h.tape, h.output, h.size, h.old, fun e he => h.own e (hp.mem_iff.2 he), (hp.map _).nodup_iff.1 h.nodup, fun e he => h.new e (hp.mem_iff.2 he)⟩
theorem Does.perm {α : Type} {m : Sem α} {hs hs' : Hp} {K : α → Hp → Prop} (hp : hs.Perm hs') (h : Does G m hs' K) : Does G m hs K := fun w hw => h w (hw.perm hp)

end Go.Proofs.Ytbccpibgjjiikaa
