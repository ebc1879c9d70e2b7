/-
  Arguments opened: slices of slices of bytes.
-/
import Derived.Test.YtbccpibgjjiikaaSu
import Derived.Test.YtbccpibgjjiikaaLb
set_option linter.unusedVariables false
set_option linter.unusedSimpArgs false
namespace Go.Proofs.Ytbccpibgjjiikaa
open Go Go.ChangeShapes Go.WideShapes Go.RowKit Go.Deep

theorem open_bytes_raw {H : Type} {enc : TypeId × Value → H} {P : Program} {W : World} {base fuel : Nat} {held : Bool} {t e : TypeId} {cs : List Value} {x : DataW H × List MemPlace}
    (ht : P.underlying t = some (.slice e)) (he : P.underlying e = some (.int .u8)) (hc : P.cellsOf e = 1) (hb : P.bytesOf e = 1) (hs : ∀ n ∈ x.1.weights P t, n ≤ reachBytes)
    (hf : DataW.trod enc P W base (fun _ => true) held fuel t cs = some x) : ∃ (A : Option Addr) (l : List B8) (c : Nat), cs = [.slice A l.length c] ∧ Arg W A l c := by
  rcases open_ints ht he hc hf with ⟨h0, hx⟩ | ⟨a, len, cap, zs, h0, _, hlc, _, hz, hx, hcell, hwf⟩
  · subst h0
    exact ⟨none, [], 0, rfl, At.nil, Nat.le_refl _, Nat.zero_le _⟩
  · subst h0
    subst hx
    simp only [if_true] at hz
    have hlen := hs ((zs.take len).length + (zs.drop len).length) (by simp [DataW.weights, ht, hb, lits])
    have hr := reachBytes_lt
    rw [List.length_take] at hlen
    obtain ⟨bs, hbs⟩ := bytes_of_wf (l := zs.take len) fun n hn => hwf n (List.mem_of_mem_take hn)
    have hbl : bs.length = len := by
      have := congrArg List.length hbs
      simp only [List.length_map, List.length_take] at this
      omega
    refine ⟨some a, bs, cap, by rw [hbl], ?_, by omega, by omega⟩
    rw [← hbs]
    intro i x hx
    rw [List.getElem?_map] at hx
    have hi : i < len := by
      rcases Nat.lt_or_ge i len with h1 | h1
      · exact h1
      · rw [List.getElem?_eq_none (by rw [List.length_take]; omega)] at hx; cases hx
    rw [List.getElem?_take, if_pos hi, List.getElem?_eq_getElem (by omega)] at hx
    simp only [Option.map_some, Option.some.injEq] at hx
    refine ⟨a, rfl, ?_⟩
    rw [hcell i (by omega), ← hx, List.getD_eq_getElem?_getD, List.getElem?_eq_getElem (by omega)]
    rfl
theorem list_of {α : Type} {R : Nat → α → Prop} : ∀ n : Nat, (∀ i, i < n → ∃ q, R i q) → ∃ l : List α, l.length = n ∧ ∀ i q, l[i]? = some q → R i q
  | 0, _ => ⟨[], rfl, fun i q h => by simp at h⟩
  | n + 1, h => by
    obtain ⟨l, h1, h2⟩ := list_of n fun i hi => h i (by omega)
    obtain ⟨q, hq⟩ := h n (by omega)
    refine ⟨l ++ [q], by simp [h1], fun i q' hi => ?_⟩
    rcases Nat.lt_or_ge i n with hlt | hge
    · rw [List.getElem?_append_left (by omega)] at hi
      exact h2 i q' hi
    · rw [List.getElem?_append_right (by omega)] at hi
      have : i = n := by
        have := (List.getElem?_eq_some_iff.1 hi).1
        simp at this
        omega
      subst this
      rw [h1, Nat.sub_self] at hi
      simp only [List.getElem?_cons_zero, Option.some.injEq] at hi
      exact hi ▸ hq
theorem weightsAll_mem {H : Type} {P : Program} {e : TypeId} : ∀ {ds : List (DataW H)} {d : DataW H}, d ∈ ds → ∀ n ∈ d.weights P e, n ∈ DataW.weightsAll P e ds
  | d0 :: ds, d, hd, n, hn => by
    rw [DataW.weightsAll]
    rcases List.mem_cons.1 hd with rfl | hd
    · exact List.mem_append_left _ hn
    · exact List.mem_append_right _ (weightsAll_mem hd n hn)
/-- A slice of slices of bytes among the arguments, opened. -/
theorem open_rows {H : Type} {enc : TypeId × Value → H} {P : Program} {W : World} {base b0 : Nat} {held : Bool} {t e u : TypeId} {v : Value} {d : DataW H} {p : List MemPlace} {ts : List TypeId} {ds : List (DataW H)} {j : Nat}
    (ht : P.underlying t = some (.slice e)) (he : P.underlying e = some (.slice u)) (hu : P.underlying u = some (.int .u8)) (hc : P.cellsOf e = 1) (hcu : P.cellsOf u = 1) (hb : P.bytesOf e = 24) (hbu : P.bytesOf u = 1)
    (hs : (DataW.weightsEach P ts ds).all (· ≤ reachBytes) = true) (hj : ts[j]? = some t) (hd : ds[j]? = some d)
    (hv : Value.okWide P W .any b0 t v) (h : DataW.Trod enc P W base (fun _ => true) held t v d p) : ∃ (A : Option Addr) (ps : List Slc) (c : Nat), v = .slice A ps.length c ∧ Parts W A ps := by
  obtain ⟨a0, len0, cap0, rfl⟩ := okWide_slice ht hv
  obtain ⟨fuel, hf⟩ := h
  have hcs : (Value.slice a0 len0 cap0).cells.toList = [.slice a0 len0 cap0] := rfl
  rw [hcs] at hf
  have hw : ∀ n ∈ d.weights P t, n ≤ reachBytes := fun n hn => of_decide_eq_true (List.all_eq_true.1 hs n (DataW.weights_mem_each hj hd n hn))
  rcases DataW.trod_slice ht hf with ⟨h0, hx⟩ | ⟨a, len, cap, elems, rest, n, _, h0, hx, _, hl, hm, hlen, hel, hsp, hns⟩
  · obtain ⟨rfl, rfl, rfl⟩ : a0 = none ∧ len0 = 0 ∧ cap0 = 0 := by simpa using h0
    exact ⟨none, [], 0, rfl, At.nil, fun q hq => (by cases hq), Nat.zero_le _⟩
  · obtain ⟨rfl, rfl, rfl⟩ : a0 = some a ∧ len0 = len ∧ cap0 = cap := by simpa using h0
    simp only [Prod.mk.injEq] at hx
    obtain ⟨rfl, _⟩ := hx
    have hr := reachBytes_lt
    have hbig := hw ((elems.length + rest.length) * 24) (by simp [DataW.weights, ht, hb])
    obtain ⟨ps, hpl, hps⟩ := list_of (R := fun i (q : Slc) => W.cell? (a.add i) = some q.v ∧ Arg W q.A q.l q.c) len0 fun i hi => by
      have hE := hel i hi
      rw [hc, Nat.mul_one, List.getElem?_eq_getElem (by omega)] at hE
      obtain ⟨cs, hcs, hy⟩ := Option.bind_eq_some_iff.1 hE
      obtain ⟨A, l, c, rfl, hA⟩ := open_bytes_raw he hu hcu hbu (fun n hn => hw n (by
        rw [DataW.weights, ht]
        exact List.mem_cons_of_mem _ (List.mem_append_left _ (weightsAll_mem (List.mem_map_of_mem (List.getElem_mem (show i < elems.length by omega))) n hn)))) hy
      exact ⟨⟨A, l, c⟩, cell_of_cells?_one hcs, hA⟩
    refine ⟨some a, ps, cap0, by rw [hpl], ?_, ?_, by omega⟩
    · intro i x hx
      rw [List.getElem?_map] at hx
      cases hq : ps[i]? with
      | none => rw [hq] at hx; cases hx
      | some q =>
        rw [hq] at hx
        obtain rfl := Option.some.inj hx
        exact ⟨a, rfl, (hps i q hq).1⟩
    · intro q hq
      obtain ⟨i, hi⟩ := List.getElem?_of_mem hq
      exact (hps i q hi).2
end Go.Proofs.Ytbccpibgjjiikaa
