/-
  What a step asks, told apart by its head first. Rows for laws: a config among the arguments, and a slice of pairs of small numbers, opened.
-/
import Derived.Test.YtnlheljpagpiiaaGreatMd
import Derived.Test.YtnlheljpagpiiaaGreatLd
import Derived.Test.YtnlheljpagpiiaaGreatMr
namespace Go.Proofs.YtnlheljpagpiiaaGreat
section
set_option linter.unusedVariables false
open Go
variable {G : Cx} {hs : Hp}
theorem CallVC.kp {f : Nat} {args : List Value} {K : Value → Hp → Prop} (h : CallVC G hs f args K) : CallVC G hs f args K := h
theorem QuietVC.kp {f : Nat} {args : List Value} {K : Value → Prop} (h : QuietVC G hs f args K) : QuietVC G hs f args K := h
theorem StoreVC.kp {a : Addr} {vs : List Value} {K : Hp → Prop} (h : StoreVC G hs a vs K) : StoreVC G hs a vs K := h
theorem AppendVC.kp {t tx : Nat} {s x : Value} {K : Value → Hp → Prop} (h : AppendVC G hs t tx s x K) : AppendVC G hs t tx s x K := h
theorem Pick.kp {α : Type} {p k : α → Prop} (h : Pick p k) : Pick p k := h
end
section
set_option linter.unusedVariables false
set_option linter.unusedSimpArgs false
set_option maxRecDepth 100000
open Go Go.ChangeShapes Go.WideShapes Go.RowKit Go.Deep Go.ChangeAt Go.ChangeMaps
theorem list_of {α : Type} {R : Nat → α → Prop} : ∀ n : Nat, (∀ i, i < n → ∃ q, R i q) → ∃ l : List α, l.length = n ∧ ∀ i q, l[i]? = some q → R i q
  | 0, _ => ⟨[], rfl, fun i q h => by simp at h⟩
  | n + 1, h => by
    obtain ⟨l, h1, h2⟩ := list_of n fun i hi => h i (by omega)
    obtain ⟨q, hq⟩ := h n (by omega)
    refine ⟨l ++ [q], by simp [h1], fun i q' hi => ?_⟩
    rcases Nat.lt_or_ge i n with hlt | hge
    · rw [List.getElem?_append_left (by omega)] at hi
      exact h2 i q' hi
    · rw [List.getElem?_append_right (by omega)] at hi
      have : i = n := by
        have := (List.getElem?_eq_some_iff.1 hi).1
        simp at this
        omega
      subst this
      rw [h1, Nat.sub_self] at hi
      simp only [List.getElem?_cons_zero, Option.some.injEq] at hi
      exact hi ▸ hq
/-- Pairs of small numbers, as cells. -/
structure PairsAt (w : World) (A : Option Addr) (l : List (Int × Int)) : Prop where
  at_ : ∀ i p, l[i]? = some p → ∃ a, A = some a ∧ w.cell? (a.add (2 * i)) = some (.int .i8 p.1) ∧ w.cell? (a.add (2 * i + 1)) = some (.int .i8 p.2)
  lo : ∀ p ∈ l, (-128 ≤ p.1 ∧ p.1 ≤ 127) ∧ (-128 ≤ p.2 ∧ p.2 ≤ 127)
  len : l.length ≤ 140737488355328
/-- A slice of pairs of small numbers among the arguments, opened. -/
theorem open_pairs {H : Type} {enc : TypeId × Value → H} {P : Program} {W : World} {base b0 : Nat} {held : Bool} {t e u : TypeId} {v : Value} {d : DataW H} {p : List MemPlace} {ts : List TypeId} {ds : List (DataW H)} {j : Nat}
    (ht : P.underlying t = some (.slice e)) (he : P.underlying e = some (.array 2 u)) (hu : P.underlying u = some (.int .i8)) (hc : P.cellsOf e = 2) (hcu : P.cellsOf u = 1) (hb : P.bytesOf e = 2)
    (hs : (DataW.weightsEach P ts ds).all (· ≤ reachBytes) = true) (hj : ts[j]? = some t) (hd : ds[j]? = some d)
    (hv : Value.okWide P W .any b0 t v) (h : DataW.Trod enc P W base (fun _ => true) held t v d p) : ∃ (A : Option Addr) (l : List (Int × Int)) (c : Nat), v = .slice A l.length c ∧ PairsAt W A l := by
  obtain ⟨a0, len0, cap0, rfl⟩ := okWide_slice ht hv
  obtain ⟨fuel, hf⟩ := h
  have hcs : (Value.slice a0 len0 cap0).cells.toList = [.slice a0 len0 cap0] := rfl
  rw [hcs] at hf
  have hw : ∀ n ∈ d.weights P t, n ≤ reachBytes := fun n hn => of_decide_eq_true (List.all_eq_true.1 hs n (DataW.weights_mem_each hj hd n hn))
  rcases DataW.trod_slice ht hf with ⟨h0, hx⟩ | ⟨a, len, cap, elems, rest, n, _, h0, hx, _, hl, hm, hlen, hel, hsp, hns⟩
  · obtain ⟨rfl, rfl, rfl⟩ : a0 = none ∧ len0 = 0 ∧ cap0 = 0 := by simpa using h0
    exact ⟨none, [], 0, rfl, fun i p h => (by simp at h), fun q hq => (by cases hq), Nat.zero_le _⟩
  · obtain ⟨rfl, rfl, rfl⟩ : a0 = some a ∧ len0 = len ∧ cap0 = cap := by simpa using h0
    simp only [Prod.mk.injEq] at hx
    obtain ⟨rfl, _⟩ := hx
    have hr := reachBytes_lt
    have hbig := hw ((elems.length + rest.length) * 2) (by simp [DataW.weights, ht, hb])
    obtain ⟨ps, hpl, hps⟩ := list_of (R := fun i (q : Int × Int) => (W.cell? (a.add (2 * i)) = some (.int .i8 q.1) ∧ W.cell? (a.add (2 * i + 1)) = some (.int .i8 q.2)) ∧ (-128 ≤ q.1 ∧ q.1 ≤ 127) ∧ (-128 ≤ q.2 ∧ q.2 ≤ 127)) len0 fun i hi => by
      have hE := hel i hi
      rw [hc, List.getElem?_eq_getElem (by omega)] at hE
      obtain ⟨cs, hcs, hy⟩ := Option.bind_eq_some_iff.1 hE
      obtain ⟨xs, k, _, _, hcl, hxl, hx⟩ := DataW.trod_array he hy
      have hcells := World.cells?_some hcs
      rw [hc] at hcl
      obtain ⟨v0, v1, rfl⟩ : ∃ v0 v1, cs = [v0, v1] := by
        match cs, hcl with
        | [v0, v1], _ => exact ⟨v0, v1, rfl⟩
      have x0 := hx 0 (by decide)
      have x1 := hx 1 (by decide)
      rw [hcu] at x0 x1
      rw [List.getElem?_eq_getElem (by omega)] at x0 x1
      obtain ⟨m0, e0, _, w0⟩ := DataW.trod_int hu x0
      obtain ⟨m1, e1, _, w1⟩ := DataW.trod_int hu x1
      obtain rfl : v0 = .int .i8 m0 := by simpa using e0
      obtain rfl : v1 = .int .i8 m1 := by simpa using e1
      have c0 := hcells.2.2 0 (by omega)
      have c1 := hcells.2.2 1 (by omega)
      refine ⟨(m0, m1), ⟨?_, ?_⟩, bounds_i8 w0, bounds_i8 w1⟩
      · rw [add_add, Nat.add_zero, Nat.mul_comm] at c0; exact c0
      · rw [add_add, Nat.mul_comm] at c1; exact c1
    refine ⟨some a, ps, cap0, by rw [hpl], ?_, ?_, by omega⟩
    · intro i q hq
      exact ⟨a, rfl, (hps i q hq).1⟩
    · intro q hq
      obtain ⟨i, hi⟩ := List.getElem?_of_mem hq
      exact (hps i q hi).2
/-- Numbers, as cells. -/
structure IntsAt (w : World) (A : Option Addr) (l : List Int) : Prop where
  at_ : ∀ i x, l[i]? = some x → ∃ a, A = some a ∧ w.cell? (a.add i) = some (.int .i64 x)
  fit : ∀ x ∈ l, I64 x
  len : l.length ≤ 140737488355328
theorem i64_wf {x : Int} (h : (Lit.int .i64 x).wf = true) : I64 x := by
  simp only [Lit.wf, Bool.and_eq_true, decide_eq_true_eq] at h
  exact h
/-- A slice of numbers among the arguments, opened. -/
theorem open_i64s {H : Type} {enc : TypeId × Value → H} {P : Program} {W : World} {base b0 : Nat} {held : Bool} {t e : TypeId} {v : Value} {d : DataW H} {p : List MemPlace} {ts : List TypeId} {ds : List (DataW H)} {j : Nat}
    (ht : P.underlying t = some (.slice e)) (he : P.underlying e = some (.int .i64)) (hc : P.cellsOf e = 1) (hb : P.bytesOf e = 8)
    (hs : (DataW.weightsEach P ts ds).all (· ≤ reachBytes) = true) (hj : ts[j]? = some t) (hd : ds[j]? = some d)
    (hv : Value.okWide P W .any b0 t v) (h : DataW.Trod enc P W base (fun _ => true) held t v d p) : ∃ (A : Option Addr) (l : List Int) (c : Nat), v = .slice A l.length c ∧ IntsAt W A l := by
  obtain ⟨a0, len0, cap0, rfl⟩ := okWide_slice ht hv
  obtain ⟨fuel, hf⟩ := h
  have hcs : (Value.slice a0 len0 cap0).cells.toList = [.slice a0 len0 cap0] := rfl
  rw [hcs] at hf
  rcases open_ints ht he hc hf with ⟨h0, hx⟩ | ⟨a, len, cap, zs, h0, _, hlc, _, hz, hx, hcell, hwf⟩
  · obtain ⟨rfl, rfl, rfl⟩ : a0 = none ∧ len0 = 0 ∧ cap0 = 0 := by simpa using h0
    exact ⟨none, [], 0, rfl, fun i x h => (by simp at h), fun q hq => (by cases hq), Nat.zero_le _⟩
  · obtain ⟨rfl, rfl, rfl⟩ : a0 = some a ∧ len0 = len ∧ cap0 = cap := by simpa using h0
    simp only [if_true] at hz
    simp only [Prod.mk.injEq] at hx
    obtain ⟨rfl, _⟩ := hx
    have hlen := sized_slice hs hj hd ht
    rw [hb] at hlen
    have hr := reachBytes_lt
    have hl1 : (lits (H := H) .i64 (zs.take len0)).length = len0 := by simp only [lits, List.length_map, List.length_take]; omega
    have hl2 : (zs.take len0).length = len0 := by rw [List.length_take]; omega
    refine ⟨some a, zs.take len0, cap0, by rw [hl2], ?_, fun x hx => i64_wf (hwf x (List.mem_of_mem_take hx)), by omega⟩
    intro i x hx
    have hi : i < len0 := by
      rcases Nat.lt_or_ge i len0 with h1 | h1
      · exact h1
      · rw [List.getElem?_eq_none (by omega)] at hx; cases hx
    rw [List.getElem?_take, if_pos hi, List.getElem?_eq_getElem (by omega)] at hx
    simp only [Option.some.injEq] at hx
    refine ⟨a, rfl, ?_⟩
    rw [hcell i (by omega), ← hx, List.getD_eq_getElem?_getD, List.getElem?_eq_getElem (by omega)]
    rfl
theorem ten {l : List Value} (h : l.length = 10) : ∃ v0 v1 v2 v3 v4 v5 v6 v7 v8 v9, l = [v0, v1, v2, v3, v4, v5, v6, v7, v8, v9] := by
  match l, h with
  | [v0, v1, v2, v3, v4, v5, v6, v7, v8, v9], _ => exact ⟨v0, v1, v2, v3, v4, v5, v6, v7, v8, v9, rfl⟩
theorem open_cfg {H : Type} {enc : TypeId × Value → H} {W : World} {base b0 : Nat} {held : Bool} {v : Value} {d : DataW H} {p : List MemPlace}
    (hv : Value.okWide Tryz.prog W .any b0 43 v) (h : DataW.Trod enc Tryz.prog W base (fun _ => true) held 43 v d p) : ∃ c : Cfg, v = c.v ∧ c.In := by
  have hs := Tryz.underlying43
  obtain ⟨cs, rfl, hsz⟩ := okWide_struct hs hv
  obtain ⟨fuel, hf⟩ := h
  obtain ⟨xs, n, _, _, _, hlen, hx⟩ := DataW.trod_struct hs hf
  have h10 : Tryz.prog.cellsOf 43 = 10 := by kernel_rfl
  have hc1 : Tryz.prog.cellsOf 3 = 1 := by kernel_rfl
  have hcl : (Value.agg cs).cells.toList = cs.toList := rfl
  rw [hcl] at hx
  obtain ⟨v0, v1, v2, v3, v4, v5, v6, v7, v8, v9, e⟩ := ten (l := cs.toList) (by rw [Array.length_toList, hsz, h10])
  obtain rfl : cs = #[v0, v1, v2, v3, v4, v5, v6, v7, v8, v9] := by
    apply Array.ext'
    exact e
  have hl : xs.length = 10 := hlen
  have get : ∀ i, i < 10 → ∃ y, xs[i]? = some y := fun i hi => ⟨xs[i], List.getElem?_eq_getElem (by omega)⟩
  have tk : ∀ (l : List Value) (i : Nat) (c : Value), l[i]? = some c → (l.drop i).take 1 = [c] := by
    intro l i c h
    obtain ⟨hi, rfl⟩ := List.getElem?_eq_some_iff.1 h
    rw [List.drop_eq_getElem_cons hi]
    rfl
  have q : ∀ (i : Nat) (f : Field) (c : Value), i < 10 → DataW.trod enc Tryz.prog W base (fun _ => true) held n f.type (((#[v0, v1, v2, v3, v4, v5, v6, v7, v8, v9] : Array Value).toList.drop f.offset).take (Tryz.prog.cellsOf f.type)) = xs[i]? → f.type = 3 → f.offset = i → (#[v0, v1, v2, v3, v4, v5, v6, v7, v8, v9] : Array Value).toList[i]? = some c → ∃ m, c = .int .i64 m ∧ I64 m := by
    intro i f c hi h6 h2 h3 h5
    rw [h2, h3, hc1, tk _ _ _ h5] at h6
    obtain ⟨y, hy⟩ := get i hi
    rw [hy] at h6
    obtain ⟨m, hm, _, wf⟩ := DataW.trod_int Tryz.underlying3 h6
    exact ⟨m, by simpa using hm, i64_wf wf⟩
  obtain ⟨x0, rfl, w0⟩ := q 0 _ v0 (by decide) (hx 0 _ rfl) rfl rfl rfl
  obtain ⟨x1, rfl, w1⟩ := q 1 _ v1 (by decide) (hx 1 _ rfl) rfl rfl rfl
  obtain ⟨x2, rfl, w2⟩ := q 2 _ v2 (by decide) (hx 2 _ rfl) rfl rfl rfl
  obtain ⟨x3, rfl, w3⟩ := q 3 _ v3 (by decide) (hx 3 _ rfl) rfl rfl rfl
  obtain ⟨x4, rfl, w4⟩ := q 4 _ v4 (by decide) (hx 4 _ rfl) rfl rfl rfl
  obtain ⟨x5, rfl, w5⟩ := q 5 _ v5 (by decide) (hx 5 _ rfl) rfl rfl rfl
  obtain ⟨x6, rfl, w6⟩ := q 6 _ v6 (by decide) (hx 6 _ rfl) rfl rfl rfl
  obtain ⟨x7, rfl, w7⟩ := q 7 _ v7 (by decide) (hx 7 _ rfl) rfl rfl rfl
  obtain ⟨x8, rfl, w8⟩ := q 8 _ v8 (by decide) (hx 8 _ rfl) rfl rfl rfl
  obtain ⟨x9, rfl, w9⟩ := q 9 _ v9 (by decide) (hx 9 _ rfl) rfl rfl rfl
  exact ⟨⟨x0, x1, x2, x3, x4, x5, x6, x7, x8, x9⟩, rfl, ⟨w0, w1, w2, w3, w4, w5, w6, w7, w8, w9⟩⟩
end
end Go.Proofs.YtnlheljpagpiiaaGreat
