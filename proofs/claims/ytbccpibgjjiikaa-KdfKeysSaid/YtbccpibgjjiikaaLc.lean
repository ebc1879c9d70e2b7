/-
  Rows for laws: a slice of wide numbers opened, and a string.
-/
import Derived.Test.YtbccpibgjjiikaaLb
set_option linter.unusedVariables false
set_option linter.unusedSimpArgs false
namespace Go.Proofs.Ytbccpibgjjiikaa
open Go Go.ChangeShapes Go.WideShapes Go.RowKit Go.Deep Go.ChangeAt Go.ChangeMaps
/-- An argument's row of wide numbers. -/
structure ArgL (w : World) (A : Option Addr) (l : List (BitVec 64)) (c : Nat) : Prop where
  at_ : At w A (l.map w64)
  cap : l.length ≤ c
  len : l.length ≤ 140737488355328
theorem longs_of_wf {l : List Int} (h : ∀ n ∈ l, (Lit.int .u64 n).wf = true) : ∃ bs : List (BitVec 64), l.map (Value.int .u64) = bs.map w64 := by
  refine ⟨l.map fun n => BitVec.ofNat 64 n.toNat, ?_⟩
  rw [List.map_map]
  refine List.map_congr_left fun n hn => ?_
  have := h n hn
  simp only [Lit.wf, Bool.and_eq_true, decide_eq_true_eq] at this
  have h1 : 0 ≤ n := this.1
  have h2 : n ≤ 18446744073709551615 := this.2
  show Value.int .u64 n = Value.int .u64 ((BitVec.ofNat 64 n.toNat).toNat : Nat)
  rw [BitVec.toNat_ofNat, Nat.mod_eq_of_lt (by omega), Int.toNat_of_nonneg h1]
theorem open_u64s {H : Type} {enc : TypeId × Value → H} {P : Program} {W : World} {base b0 : Nat} {held : Bool} {t e : TypeId} {v : Value} {d : DataW H} {p : List MemPlace} {ts : List TypeId} {ds : List (DataW H)} {j : Nat}
    (ht : P.underlying t = some (.slice e)) (he : P.underlying e = some (.int .u64)) (hc : P.cellsOf e = 1) (hb : P.bytesOf e = 8)
    (hs : (DataW.weightsEach P ts ds).all (· ≤ reachBytes) = true) (hj : ts[j]? = some t) (hd : ds[j]? = some d)
    (hv : Value.okWide P W .any b0 t v) (h : DataW.Trod enc P W base (fun _ => true) held t v d p) : ∃ (A : Option Addr) (l : List (BitVec 64)) (c : Nat), v = .slice A l.length c ∧ ArgL W A l c := by
  obtain ⟨a0, len0, cap0, rfl⟩ := okWide_slice ht hv
  obtain ⟨fuel, hf⟩ := h
  have hcs : (Value.slice a0 len0 cap0).cells.toList = [.slice a0 len0 cap0] := rfl
  rw [hcs] at hf
  rcases open_ints ht he hc hf with ⟨h0, hx⟩ | ⟨a, len, cap, zs, h0, _, hlc, _, hz, hx, hcell, hwf⟩
  · obtain ⟨rfl, rfl, rfl⟩ : a0 = none ∧ len0 = 0 ∧ cap0 = 0 := by simpa using h0
    exact ⟨none, [], 0, rfl, At.nil, Nat.le_refl _, Nat.zero_le _⟩
  · obtain ⟨rfl, rfl, rfl⟩ : a0 = some a ∧ len0 = len ∧ cap0 = cap := by simpa using h0
    simp only [if_true] at hz
    simp only [Prod.mk.injEq] at hx
    obtain ⟨rfl, _⟩ := hx
    have hlen := sized_slice hs hj hd ht
    rw [hb] at hlen
    have hr := reachBytes_lt
    have hl1 : (lits (H := H) .u64 (zs.take len0)).length = len0 := by simp only [lits, List.length_map, List.length_take]; omega
    obtain ⟨bs, hbs⟩ := longs_of_wf (l := zs.take len0) fun n hn => hwf n (List.mem_of_mem_take hn)
    have hbl : bs.length = len0 := by
      have := congrArg List.length hbs
      simp only [List.length_map, List.length_take] at this
      omega
    refine ⟨some a, bs, cap0, by rw [hbl], ?_, by omega, by omega⟩
    rw [← hbs]
    intro i x hx
    rw [List.getElem?_map] at hx
    have hi : i < len0 := by
      rcases Nat.lt_or_ge i len0 with h1 | h1
      · exact h1
      · rw [List.getElem?_eq_none (by rw [List.length_take]; omega)] at hx; cases hx
    rw [List.getElem?_take, if_pos hi, List.getElem?_eq_getElem (by omega)] at hx
    simp only [Option.map_some, Option.some.injEq] at hx
    refine ⟨a, rfl, ?_⟩
    rw [hcell i (by omega), ← hx, List.getD_eq_getElem?_getD, List.getElem?_eq_getElem (by omega)]
    rfl
theorem open_str {H : Type} {enc : TypeId × Value → H} {P : Program} {W : World} {base b0 : Nat} {held : Bool} {t : TypeId} {v : Value} {d : DataW H} {p : List MemPlace} {ts : List TypeId} {ds : List (DataW H)} {j : Nat}
    (ht : P.underlying t = some .string) (hs : (DataW.weightsEach P ts ds).all (· ≤ reachBytes) = true) (hj : ts[j]? = some t) (hd : ds[j]? = some d)
    (hv : Value.okWide P W .any b0 t v) (h : DataW.Trod enc P W base (fun _ => true) held t v d p) : ∃ s : ByteArray, v = .string s ∧ s.size ≤ 140737488355328 := by
  obtain ⟨s, rfl, rfl, _, _⟩ := open_string ht hv h
  refine ⟨s, rfl, ?_⟩
  have h1 := sized_string hs hj hd
  have h2 := reachBytes_lt
  have h3 : s.size = s.data.toList.length := rfl
  omega
end Go.Proofs.Ytbccpibgjjiikaa
