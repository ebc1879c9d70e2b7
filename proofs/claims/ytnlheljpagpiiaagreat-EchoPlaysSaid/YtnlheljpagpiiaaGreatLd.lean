/-
  Rows for laws: a frame among the arguments, opened.
-/
import Derived.Test.YtnlheljpagpiiaaGreatLb
import Derived.Test.YtnlheljpagpiiaaGreatMn
set_option linter.unusedVariables false
set_option linter.unusedSimpArgs false
set_option maxRecDepth 100000
namespace Go.Proofs.YtnlheljpagpiiaaGreat
open Go Go.ChangeShapes Go.WideShapes Go.RowKit Go.Deep Go.ChangeAt Go.ChangeMaps
/-- An argument's row of bytes, how long it may be at most told sharply. -/
structure ArgS (w : World) (A : Option Addr) (l : List B8) (c : Nat) : Prop where
  at_ : At w A (l.map b8)
  cap : l.length ≤ c
  len : l.length ≤ 140737488351232
/-- A slice of bytes among the arguments, opened. -/
theorem open_bytesS {H : Type} {enc : TypeId × Value → H} {P : Program} {W : World} {base b0 : Nat} {held : Bool} {t e : TypeId} {v : Value} {d : DataW H} {p : List MemPlace} {ts : List TypeId} {ds : List (DataW H)} {j : Nat}
    (ht : P.underlying t = some (.slice e)) (he : P.underlying e = some (.int .u8)) (hc : P.cellsOf e = 1) (hb : P.bytesOf e = 1)
    (hs : (DataW.weightsEach P ts ds).all (· ≤ reachBytes) = true) (hj : ts[j]? = some t) (hd : ds[j]? = some d)
    (hv : Value.okWide P W .any b0 t v) (h : DataW.Trod enc P W base (fun _ => true) held t v d p) : ∃ (A : Option Addr) (l : List B8) (c : Nat), v = .slice A l.length c ∧ ArgS W A l c := by
  obtain ⟨a0, len0, cap0, rfl⟩ := okWide_slice ht hv
  obtain ⟨fuel, hf⟩ := h
  have hcs : (Value.slice a0 len0 cap0).cells.toList = [.slice a0 len0 cap0] := rfl
  rw [hcs] at hf
  rcases open_ints ht he hc hf with ⟨h0, hx⟩ | ⟨a, len, cap, zs, h0, _, hlc, _, hz, hx, hcell, hwf⟩
  · obtain ⟨rfl, rfl, rfl⟩ : a0 = none ∧ len0 = 0 ∧ cap0 = 0 := by simpa using h0
    exact ⟨none, [], 0, rfl, At.nil, Nat.le_refl _, Nat.zero_le _⟩
  · obtain ⟨rfl, rfl, rfl⟩ : a0 = some a ∧ len0 = len ∧ cap0 = cap := by simpa using h0
    simp only [if_true] at hz
    simp only [Prod.mk.injEq] at hx
    obtain ⟨rfl, _⟩ := hx
    have hlen := sized_slice hs hj hd ht
    rw [hb, Nat.mul_one] at hlen
    have hr : reachBytes = 140737488351232 := rfl
    have hl1 : (lits (H := H) .u8 (zs.take len0)).length = len0 := by simp only [lits, List.length_map, List.length_take]; omega
    obtain ⟨bs, hbs⟩ := bytes_of_wf (l := zs.take len0) fun n hn => hwf n (List.mem_of_mem_take hn)
    have hbl : bs.length = len0 := by
      have := congrArg List.length hbs
      simp only [List.length_map, List.length_take] at this
      omega
    refine ⟨some a, bs, cap0, by rw [hbl], ?_, by omega, by omega⟩
    rw [← hbs]
    intro i x hx
    rw [List.getElem?_map] at hx
    have hi : i < len0 := by
      rcases Nat.lt_or_ge i len0 with h1 | h1
      · exact h1
      · rw [List.getElem?_eq_none (by rw [List.length_take]; omega)] at hx; cases hx
    rw [List.getElem?_take, if_pos hi, List.getElem?_eq_getElem (by omega)] at hx
    simp only [Option.map_some, Option.some.injEq] at hx
    refine ⟨a, rfl, ?_⟩
    rw [hcell i (by omega), ← hx, List.getD_eq_getElem?_getD, List.getElem?_eq_getElem (by omega)]
    rfl
/-- A slice of bytes in a struct, opened. -/
theorem open_row {H : Type} {enc : TypeId × Value → H} {P : Program} {W : World} {base fuel : Nat} {held : Bool} {t e : TypeId} {v : Value} {x : DataW H × List MemPlace}
    (ht : P.underlying t = some (.slice e)) (he : P.underlying e = some (.int .u8)) (hc : P.cellsOf e = 1) (hf : DataW.trod enc P W base (fun _ => true) held fuel t [v] = some x) :
    ∃ (A : Option Addr) (l : List B8) (c : Nat), v = .slice A l.length c ∧ At W A (l.map b8) := by
  rcases open_ints ht he hc hf with ⟨h0, hx⟩ | ⟨a, len, cap, zs, h0, _, hlc, _, hz, hx, hcell, hwf⟩
  · obtain rfl : v = .slice none 0 0 := by simpa using h0
    exact ⟨none, [], 0, rfl, At.nil⟩
  · obtain rfl : v = .slice (some a) len cap := by simpa using h0
    simp only [if_true] at hz
    obtain ⟨bs, hbs⟩ := bytes_of_wf (l := zs.take len) fun n hn => hwf n (List.mem_of_mem_take hn)
    have hbl : bs.length = len := by
      have := congrArg List.length hbs
      simp only [List.length_map, List.length_take] at this
      omega
    refine ⟨some a, bs, cap, by rw [hbl], ?_⟩
    rw [← hbs]
    intro i x hx
    rw [List.getElem?_map] at hx
    have hi : i < len := by
      rcases Nat.lt_or_ge i len with h1 | h1
      · exact h1
      · rw [List.getElem?_eq_none (by rw [List.length_take]; omega)] at hx; cases hx
    rw [List.getElem?_take, if_pos hi, List.getElem?_eq_getElem (by omega)] at hx
    simp only [Option.map_some, Option.some.injEq] at hx
    refine ⟨a, rfl, ?_⟩
    rw [hcell i (by omega), ← hx, List.getD_eq_getElem?_getD, List.getElem?_eq_getElem (by omega)]
    rfl
theorem long_of_wf {n : Int} (h : (Lit.int .u64 n).wf = true) : ∃ x : BitVec 64, Value.int .u64 n = w64 x := by
  simp only [Lit.wf, Bool.and_eq_true, decide_eq_true_eq] at h
  have h1 : 0 ≤ n := h.1
  have h2 : n ≤ 18446744073709551615 := h.2
  refine ⟨BitVec.ofNat 64 n.toNat, ?_⟩
  show Value.int .u64 n = Value.int .u64 ((BitVec.ofNat 64 n.toNat).toNat : Nat)
  rw [BitVec.toNat_ofNat, Nat.mod_eq_of_lt (by omega), Int.toNat_of_nonneg h1]
theorem thirteen {l : List Value} (h : l.length = 13) : ∃ v0 v1 v2 v3 v4 v5 v6 v7 v8 v9 v10 v11 v12, l = [v0, v1, v2, v3, v4, v5, v6, v7, v8, v9, v10, v11, v12] := by
  match l, h with
  | [v0, v1, v2, v3, v4, v5, v6, v7, v8, v9, v10, v11, v12], _ => exact ⟨v0, v1, v2, v3, v4, v5, v6, v7, v8, v9, v10, v11, v12, rfl⟩
theorem open_frame {H : Type} {enc : TypeId × Value → H} {W : World} {base b0 : Nat} {held : Bool} {v : Value} {d : DataW H} {p : List MemPlace}
    (hv : Value.okWide Tryz.prog W .any b0 25 v) (h : DataW.Trod enc Tryz.prog W base (fun _ => true) held 25 v d p) : ∃ f : Fr, v = f.v ∧ FAt W f := by
  have hs := Tryz.underlying25
  obtain ⟨cs, rfl, hsz⟩ := okWide_struct hs hv
  obtain ⟨fuel, hf⟩ := h
  obtain ⟨xs, n, _, _, _, hlen, hx⟩ := DataW.trod_struct hs hf
  have h13 : Tryz.prog.cellsOf 25 = 13 := by kernel_rfl
  have hc1 : ∀ t ∈ [3, 22, 2, 23], Tryz.prog.cellsOf t = 1 := by
    intro t ht
    simp only [List.mem_cons, List.not_mem_nil, or_false] at ht
    rcases ht with rfl | rfl | rfl | rfl <;> kernel_rfl
  have hcl : (Value.agg cs).cells.toList = cs.toList := rfl
  rw [hcl] at hx
  obtain ⟨v0, v1, v2, v3, v4, v5, v6, v7, v8, v9, v10, v11, v12, e⟩ := thirteen (l := cs.toList) (by rw [Array.length_toList, hsz, h13])
  obtain rfl : cs = #[v0, v1, v2, v3, v4, v5, v6, v7, v8, v9, v10, v11, v12] := by
    apply Array.ext'
    exact e
  have hl : xs.length = 13 := hlen
  have get : ∀ i, i < 13 → ∃ y, xs[i]? = some y := fun i hi => ⟨xs[i], List.getElem?_eq_getElem (by omega)⟩
  have tk : ∀ (l : List Value) (i : Nat) (c : Value), l[i]? = some c → (l.drop i).take 1 = [c] := by
    intro l i c h
    obtain ⟨hi, rfl⟩ := List.getElem?_eq_some_iff.1 h
    rw [List.drop_eq_getElem_cons hi]
    rfl
  have q : ∀ (i : Nat) (f : Field) (t : TypeId) (c : Value), DataW.trod enc Tryz.prog W base (fun _ => true) held n f.type (((#[v0, v1, v2, v3, v4, v5, v6, v7, v8, v9, v10, v11, v12] : Array Value).toList.drop f.offset).take (Tryz.prog.cellsOf f.type)) = xs[i]? → f.type = t → f.offset = i → Tryz.prog.cellsOf t = 1 → (#[v0, v1, v2, v3, v4, v5, v6, v7, v8, v9, v10, v11, v12] : Array Value).toList[i]? = some c → DataW.trod enc Tryz.prog W base (fun _ => true) held n t [c] = xs[i]? := by
    intro i f t c h6 h2 h3 h4 h5
    rw [h2, h3, h4, tk _ _ _ h5] at h6
    exact h6
  have num : ∀ (i : Nat) (c : Value) (t : TypeId) (k : IntKind), i < 13 → Tryz.prog.underlying t = some (.int k) → DataW.trod enc Tryz.prog W base (fun _ => true) held n t [c] = xs[i]? → ∃ m, c = .int k m ∧ (Lit.int k m).wf = true := by
    intro i c t k hi hu ht
    obtain ⟨y, hy⟩ := get i hi
    rw [hy] at ht
    obtain ⟨m, hm, _, wf⟩ := DataW.trod_int hu ht
    exact ⟨m, by simpa using hm, wf⟩
  have row : ∀ (i : Nat) (c : Value), i < 13 → DataW.trod enc Tryz.prog W base (fun _ => true) held n 23 [c] = xs[i]? → ∃ (A : Option Addr) (l : List B8) (k : Nat), c = .slice A l.length k ∧ At W A (l.map b8) := by
    intro i c hi ht
    obtain ⟨y, hy⟩ := get i hi
    rw [hy] at ht
    exact open_row Tryz.underlying23 Tryz.underlying5 (by kernel_rfl) ht
  have c3 := hc1 3 (by decide)
  have c22 := hc1 22 (by decide)
  have c2 := hc1 2 (by decide)
  have c23 := hc1 23 (by decide)
  obtain ⟨x0, rfl, w0⟩ := num 0 v0 3 .i64 (by decide) Tryz.underlying3 (q 0 _ _ _ (hx 0 _ rfl) rfl rfl c3 rfl)
  obtain ⟨x1, rfl, w1⟩ := num 1 v1 3 .i64 (by decide) Tryz.underlying3 (q 1 _ _ _ (hx 1 _ rfl) rfl rfl c3 rfl)
  obtain ⟨x2, rfl, w2⟩ := num 2 v2 3 .i64 (by decide) Tryz.underlying3 (q 2 _ _ _ (hx 2 _ rfl) rfl rfl c3 rfl)
  obtain ⟨x3, rfl, w3⟩ := num 3 v3 3 .i64 (by decide) Tryz.underlying3 (q 3 _ _ _ (hx 3 _ rfl) rfl rfl c3 rfl)
  obtain ⟨x4, rfl, w4⟩ := num 4 v4 3 .i64 (by decide) Tryz.underlying3 (q 4 _ _ _ (hx 4 _ rfl) rfl rfl c3 rfl)
  obtain ⟨x5, rfl, w5⟩ := num 5 v5 3 .i64 (by decide) Tryz.underlying3 (q 5 _ _ _ (hx 5 _ rfl) rfl rfl c3 rfl)
  obtain ⟨x6, rfl, w6⟩ := num 6 v6 22 .u64 (by decide) Tryz.underlying22 (q 6 _ _ _ (hx 6 _ rfl) rfl rfl c22 rfl)
  obtain ⟨x7, rfl, w7⟩ := num 7 v7 2 .i64 (by decide) Tryz.underlying2 (q 7 _ _ _ (hx 7 _ rfl) rfl rfl c2 rfl)
  obtain ⟨x8, rfl, w8⟩ := num 8 v8 3 .i64 (by decide) Tryz.underlying3 (q 8 _ _ _ (hx 8 _ rfl) rfl rfl c3 rfl)
  obtain ⟨x9, rfl, w9⟩ := num 9 v9 3 .i64 (by decide) Tryz.underlying3 (q 9 _ _ _ (hx 9 _ rfl) rfl rfl c3 rfl)
  obtain ⟨A10, l10, k10, rfl, a10⟩ := row 10 v10 (by decide) (q 10 _ _ _ (hx 10 _ rfl) rfl rfl c23 rfl)
  obtain ⟨A11, l11, k11, rfl, a11⟩ := row 11 v11 (by decide) (q 11 _ _ _ (hx 11 _ rfl) rfl rfl c23 rfl)
  obtain ⟨A12, l12, k12, rfl, a12⟩ := row 12 v12 (by decide) (q 12 _ _ _ (hx 12 _ rfl) rfl rfl c23 rfl)
  obtain ⟨b6, e6⟩ := long_of_wf w6
  rw [e6]
  exact ⟨⟨x0, x1, x2, x3, x4, x5, b6, x7, x8, x9, ⟨A10, l10, k10⟩, ⟨A11, l11, k11⟩, ⟨A12, l12, k12⟩⟩, rfl, ⟨a10, a11, a12⟩⟩
end Go.Proofs.YtnlheljpagpiiaaGreat
