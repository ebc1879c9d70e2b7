/-
  Rows for laws whose arguments are slices of bytes: the reach handed on; a slice of bytes opened.
-/
import Derived.Test.YtnlheljpagpiiaaGreatLa
import Derived.Test.YtnlheljpagpiiaaGreatMe
import Derived.SizedLaws
import Derived.ChangeSlices
import Derived.ChangeMaps5
import Derived.Carry
import Derived.Test.YtnlheljpagpiiaaGreatChecked
set_option linter.unusedVariables false
set_option linter.unusedSimpArgs false
namespace Go.Proofs.YtnlheljpagpiiaaGreat
open Go Go.ChangeShapes Go.WideShapes Go.RowKit Go.Deep

/-- The law's row, but for its closed facts; the law is told how much its arguments hold. -/
theorem law_returns2 {H : Type} {enc : TypeId × Value → H} {C : Checked} {os : Os} {f : FuncId} {fn : Func} {s : ChangeSpec} {conds : List PathCond} {apart fresh : Bool} {bt : TypeId}
    (own : ownKnob C.prog.godebug = none) (started : os.Started) (noInit : C.prog.inits.idxOf? f = none) (hfn : C.prog.funcs[f]? = some fn)
    (hl : laidOutB C.prog = true) (hread : ∀ t ∈ fn.params.toList, C.prog.readableRec t = true ∧ t < C.prog.types.size) (hres : fn.resultTypes = #[bt]) (hbt : C.prog.underlying bt = some .bool) (hvars : s.vars = [])
    (hspec : ∀ ds : List (DataW H), ds.length = fn.params.size → (s.fn H ds).results = [.lit (.bool true)] ∧ (s.fn H ds).args = ds)
    (hsv : ∀ ds : List (DataW H), (s.fn H ds).vars = [])
    (witness : ∃ (w : World) (tape : Tape) (i : Input), w.os = os ∧ (w.forCall tape i).Shaped C.prog ∧ i.vars = [] ∧ Input.okWide C.prog (w.forCall tape i) .any w.heap.size f i ∧
      s.pre6 enc C.prog fn conds apart (w.forCall tape i).memory i.args ∧ ({} : Assume).holds C.prog (lone (Frame.enter C.prog f i.args .normal) [] (w.forCall tape i)))
    (law : ∀ (W : World) (base : Nat) (args : Array Value) (ds : List (DataW H)) (before : List MemPlace),
      (∀ (j : Nat) t v, fn.params[j]? = some t → args[j]? = some v → Value.okWide C.prog W .any base t v) → DataW.TrodAll enc C.prog W 0 (fun _ => true) true fn.params.toList args.toList ds before →
      (DataW.weightsEach C.prog fn.params.toList ds).all (· ≤ reachBytes) = true →
      Val C.prog f args.toList W (.bool true)) :
    ReturnsInHanded {} C os f .any (s.pre6 enc C.prog fn conds apart) (s.post enc C.prog fn apart fresh false false) := by
  refine returnsInHanded_of_change_sized (C := C) own started noInit hfn witness ?_
  intro W base args ds gs before hval hW hcnd hsz _
  have hW' := hW
  obtain ⟨p, q, hA, hV, rfl, hfz, hnd⟩ := hW
  rw [hvars] at hV
  obtain ⟨rfl, rfl⟩ := trodVars_none hV
  have hvt : s.plain.varTypes C.prog = [] := by unfold DataSpec.varTypes ChangeSpec.plain; simp [hvars]
  rw [hvt, List.append_nil, List.append_nil] at hsz
  have hc : Calls C.prog f args W (Post ⟨C.prog, W, []⟩ fun u hs2 => u = .bool true ∧ hs2 = []) := (law W base args ds p hval hA hsz).calls
  refine Calls.mono hc ?_
  rintro e W' ⟨v, hs, rfl, ⟨rfl, rfl⟩, hst⟩
  have hb := below_of_st hst
  have hlt : ∀ x ∈ p, x.block < W.heap.size := fun x hx => by simpa using hW'.lt x (List.mem_append_left _ hx)
  have hlen : ∀ (ts : List TypeId) (vs : List Value) (ds : List (DataW H)) (p : List MemPlace), DataW.TrodAll enc C.prog W 0 (fun _ => true) true ts vs ds p → ds.length = ts.length := by
    intro ts
    induction ts with
    | nil => intro vs ds p h; obtain ⟨rfl, rfl, rfl⟩ := trodAll_nil h; rfl
    | cons t ts ih =>
      intro vs ds p h
      obtain ⟨v, vs1, d, ds1, a, b, rfl, rfl, rfl, h1, h2⟩ := trodAll_cons h
      simp [ih _ _ _ h2]
  obtain ⟨e1, e2⟩ := hspec ds (by rw [hlen _ _ _ _ hA, Array.length_toList])
  refine ⟨_, rfl, ds, [], p ++ [], [], p, [], hW', ?_, ?_, ?_, Below.frame hb _, fun h => by cases h⟩
  · rw [List.append_nil, e1, hres]
    exact trodAll_mk1 (shut_bool hbt true)
  · rw [List.append_nil, e2]
    exact trodAll_below hl hb _ _ _ _ hread hA hlt
  · rw [hvars, hsv]
    rfl

theorem own_knob : ownKnob Tryz.prog.godebug = none := by kernel_rfl
theorem laid_out : laidOutB Tryz.prog = true := by kernel_rfl

theorem u8_of_wf {x : Int} (h : (Lit.int .u8 x).wf = true) : 0 ≤ x ∧ x ≤ 255 := by
  simp only [Lit.wf, Bool.and_eq_true, decide_eq_true_eq] at h
  exact h
theorem u16_of_wf {x : Int} (h : (Lit.int .u16 x).wf = true) : 0 ≤ x ∧ x ≤ 65535 := by
  simp only [Lit.wf, Bool.and_eq_true, decide_eq_true_eq] at h
  exact h
theorem u32_of_wf {x : Int} (h : (Lit.int .u32 x).wf = true) : 0 ≤ x ∧ x ≤ 4294967295 := by
  simp only [Lit.wf, Bool.and_eq_true, decide_eq_true_eq] at h
  exact h
theorem u64_of_wf {x : Int} (h : (Lit.int .u64 x).wf = true) : 0 ≤ x ∧ x ≤ 18446744073709551615 := by
  simp only [Lit.wf, Bool.and_eq_true, decide_eq_true_eq] at h
  exact h

/-- An argument's row of bytes. -/
structure Arg (w : World) (A : Option Addr) (l : List B8) (c : Nat) : Prop where
  at_ : At w A (l.map b8)
  cap : l.length ≤ c
  len : l.length ≤ 140737488355328

theorem bytes_of_wf {l : List Int} (h : ∀ n ∈ l, (Lit.int .u8 n).wf = true) : ∃ bs : List B8, l.map (Value.int .u8) = bs.map b8 := by
  refine ⟨l.map fun n => BitVec.ofNat 8 n.toNat, ?_⟩
  rw [List.map_map]
  refine List.map_congr_left fun n hn => ?_
  have := h n hn
  simp only [Lit.wf, Bool.and_eq_true, decide_eq_true_eq] at this
  have h1 : 0 ≤ n := this.1
  have h2 : n ≤ 255 := this.2
  show Value.int .u8 n = Value.int .u8 ((BitVec.ofNat 8 n.toNat).toNat : Nat)
  rw [BitVec.toNat_ofNat, Nat.mod_eq_of_lt (by omega), Int.toNat_of_nonneg h1]

/-- A slice of bytes among the arguments, opened. -/
theorem open_bytes {H : Type} {enc : TypeId × Value → H} {P : Program} {W : World} {base b0 : Nat} {held : Bool} {t e : TypeId} {v : Value} {d : DataW H} {p : List MemPlace} {ts : List TypeId} {ds : List (DataW H)} {j : Nat}
    (ht : P.underlying t = some (.slice e)) (he : P.underlying e = some (.int .u8)) (hc : P.cellsOf e = 1) (hb : P.bytesOf e = 1)
    (hs : (DataW.weightsEach P ts ds).all (· ≤ reachBytes) = true) (hj : ts[j]? = some t) (hd : ds[j]? = some d)
    (hv : Value.okWide P W .any b0 t v) (h : DataW.Trod enc P W base (fun _ => true) held t v d p) : ∃ (A : Option Addr) (l : List B8) (c : Nat), v = .slice A l.length c ∧ Arg W A l c := by
  obtain ⟨a0, len0, cap0, rfl⟩ := okWide_slice ht hv
  obtain ⟨fuel, hf⟩ := h
  have hcs : (Value.slice a0 len0 cap0).cells.toList = [.slice a0 len0 cap0] := rfl
  rw [hcs] at hf
  rcases open_ints ht he hc hf with ⟨h0, hx⟩ | ⟨a, len, cap, zs, h0, _, hlc, _, hz, hx, hcell, hwf⟩
  · obtain ⟨rfl, rfl, rfl⟩ : a0 = none ∧ len0 = 0 ∧ cap0 = 0 := by simpa using h0
    exact ⟨none, [], 0, rfl, At.nil, Nat.le_refl _, Nat.zero_le _⟩
  · obtain ⟨rfl, rfl, rfl⟩ : a0 = some a ∧ len0 = len ∧ cap0 = cap := by simpa using h0
    simp only [if_true] at hz
    simp only [Prod.mk.injEq] at hx
    obtain ⟨rfl, _⟩ := hx
    have hlen := sized_slice hs hj hd ht
    rw [hb, Nat.mul_one] at hlen
    have hr := reachBytes_lt
    have hl1 : (lits (H := H) .u8 (zs.take len0)).length = len0 := by simp only [lits, List.length_map, List.length_take]; omega
    obtain ⟨bs, hbs⟩ := bytes_of_wf (l := zs.take len0) fun n hn => hwf n (List.mem_of_mem_take hn)
    have hbl : bs.length = len0 := by
      have := congrArg List.length hbs
      simp only [List.length_map, List.length_take] at this
      omega
    refine ⟨some a, bs, cap0, by rw [hbl], ?_, by omega, by omega⟩
    rw [← hbs]
    intro i x hx
    rw [List.getElem?_map] at hx
    have hi : i < len0 := by
      rcases Nat.lt_or_ge i len0 with h1 | h1
      · exact h1
      · rw [List.getElem?_eq_none (by rw [List.length_take]; omega)] at hx; cases hx
    rw [List.getElem?_take, if_pos hi, List.getElem?_eq_getElem (by omega)] at hx
    simp only [Option.map_some, Option.some.injEq] at hx
    refine ⟨a, rfl, ?_⟩
    rw [hcell i (by omega), ← hx, List.getD_eq_getElem?_getD, List.getElem?_eq_getElem (by omega)]
    rfl
end Go.Proofs.YtnlheljpagpiiaaGreat
