/-
  From a law's walk to what its row says: it returns true, and each argument reads behind the call as it did before.
-/
import Derived.Test.YtnlheljpagpiiaaGreatMd
import Derived.OpenShut
import Derived.ProofKit
import Derived.Lib.SmallJoins
set_option linter.unusedVariables false
set_option linter.unusedSimpArgs false
namespace Go.Proofs.YtnlheljpagpiiaaGreat
open Go Go.ChangeShapes Go.WideShapes Go.RowKit Go.Deep

theorem below_of_st {P : Program} {w w' : World} {hs : Hp} (h : St ⟨P, w, []⟩ hs w') : Below w.heap.size w w' := ⟨h.os, h.tape, h.output, h.size, fun k hk => h.old k hk (by simp)⟩
theorem trodAll_below {H : Type} {enc : TypeId × Value → H} {P : Program} (hl : laidOutB P = true) {W W' : World} (hb : Below W.heap.size W W') : ∀ (ts : List TypeId) (vs : List Value) (ds : List (DataW H)) (ps : List MemPlace),
    (∀ t ∈ ts, P.readableRec t = true ∧ t < P.types.size) → DataW.TrodAll enc P W 0 (fun _ => true) true ts vs ds ps → (∀ x ∈ ps, x.block < W.heap.size) →
    DataW.TrodAll enc P W' 0 (fun b => decide (b < W.heap.size)) true ts vs ds ps
  | [], vs, ds, ps, _, h, _ => by
    obtain ⟨rfl, rfl, rfl⟩ := trodAll_nil h
    rfl
  | t :: ts, vs, ds, ps, ht, h, hp => by
    obtain ⟨v, vs1, d, ds1, a, b, rfl, rfl, rfl, h1, h2⟩ := trodAll_cons h
    exact ⟨a, b, Below.trod hl (ht t (List.mem_cons_self ..)).1 (ht t (List.mem_cons_self ..)).2 h1 hb (fun x hx => hp x (List.mem_append_left _ hx)),
      trodAll_below hl hb ts vs1 ds1 b (fun t' h' => ht t' (List.mem_cons_of_mem _ h')) h2 (fun x hx => hp x (List.mem_append_right _ hx)), rfl⟩

/-- The law's row, but for its closed facts. -/
theorem law_returns {H : Type} {enc : TypeId × Value → H} {C : Checked} {os : Os} {f : FuncId} {fn : Func} {s : ChangeSpec} {conds : List PathCond} {apart fresh : Bool} {bt : TypeId}
    (own : ownKnob C.prog.godebug = none) (started : os.Started) (noInit : C.prog.inits.idxOf? f = none) (hfn : C.prog.funcs[f]? = some fn)
    (hl : laidOutB C.prog = true) (hread : ∀ t ∈ fn.params.toList, C.prog.readableRec t = true ∧ t < C.prog.types.size) (hres : fn.resultTypes = #[bt]) (hbt : C.prog.underlying bt = some .bool) (hvars : s.vars = [])
    (hspec : ∀ ds : List (DataW H), ds.length = fn.params.size → (s.fn H ds).results = [.lit (.bool true)] ∧ (s.fn H ds).args = ds)
    (hsv : ∀ ds : List (DataW H), (s.fn H ds).vars = [])
    (witness : ∃ (w : World) (tape : Tape) (i : Input), w.os = os ∧ (w.forCall tape i).Shaped C.prog ∧ i.vars = [] ∧ Input.okWide C.prog (w.forCall tape i) .any w.heap.size f i ∧
      s.pre6 enc C.prog fn conds apart (w.forCall tape i).memory i.args ∧ ({} : Assume).holds C.prog (lone (Frame.enter C.prog f i.args .normal) [] (w.forCall tape i)))
    (law : ∀ (W : World) (base : Nat) (args : Array Value) (ds : List (DataW H)) (before : List MemPlace),
      (∀ (j : Nat) t v, fn.params[j]? = some t → args[j]? = some v → Value.okWide C.prog W .any base t v) → DataW.TrodAll enc C.prog W 0 (fun _ => true) true fn.params.toList args.toList ds before →
      Val C.prog f args.toList W (.bool true)) :
    ReturnsInHanded {} C os f .any (s.pre6 enc C.prog fn conds apart) (s.post enc C.prog fn apart fresh false false) := by
  refine returnsInHanded_of_change (C := C) own started noInit hfn witness ?_
  intro W base args ds gs before hval hW hcnd _
  have hW' := hW
  obtain ⟨p, q, hA, hV, rfl, hfz, hnd⟩ := hW
  rw [hvars] at hV
  obtain ⟨rfl, rfl⟩ := trodVars_none hV
  have hc : Calls C.prog f args W (Post ⟨C.prog, W, []⟩ fun u hs2 => u = .bool true ∧ hs2 = []) := (law W base args ds p hval hA).calls
  refine Calls.mono hc ?_
  rintro e W' ⟨v, hs, rfl, ⟨rfl, rfl⟩, hst⟩
  have hb := below_of_st hst
  have hlt : ∀ x ∈ p, x.block < W.heap.size := fun x hx => by simpa using hW'.lt x (List.mem_append_left _ hx)
  have hlen : ∀ (ts : List TypeId) (vs : List Value) (ds : List (DataW H)) (p : List MemPlace), DataW.TrodAll enc C.prog W 0 (fun _ => true) true ts vs ds p → ds.length = ts.length := by
    intro ts
    induction ts with
    | nil => intro vs ds p h; obtain ⟨rfl, rfl, rfl⟩ := trodAll_nil h; rfl
    | cons t ts ih =>
      intro vs ds p h
      obtain ⟨v, vs1, d, ds1, a, b, rfl, rfl, rfl, h1, h2⟩ := trodAll_cons h
      simp [ih _ _ _ h2]
  obtain ⟨e1, e2⟩ := hspec ds (by rw [hlen _ _ _ _ hA, Array.length_toList])
  refine ⟨_, rfl, ds, [], p ++ [], [], p, [], hW', ?_, ?_, ?_, Below.frame hb _, fun h => by cases h⟩
  · rw [List.append_nil, e1, hres]
    exact trodAll_mk1 (shut_bool hbt true)
  · rw [List.append_nil, e2]
    exact trodAll_below hl hb _ _ _ _ hread hA hlt
  · rw [hvars, hsv]
    rfl

/-- A struct of whole numbers, by value, opened. -/
theorem ints_of_struct {H : Type} {enc : TypeId × Value → H} {P : Program} {w : World} {base b0 : Nat} {spare : Nat → Bool} {held : Bool} {r : Reach} {t : TypeId} {fs : Array Field} {v : Value} {d : DataW H} {p : List MemPlace} {k : IntKind}
    (hs : P.underlying t = some (.struct fs)) (hone : oneCellFields P fs = true) (hC : P.cellsOf t = fs.size) (hi : ∀ (i : Nat) (f : Field), fs[i]? = some f → P.underlying f.type = some (.int k))
    (hv : Value.okWide P w r b0 t v) (h : DataW.Trod enc P w base spare held t v d p) :
    ∃ l : List Int, v = .agg (l.map (Value.int k)).toArray ∧ l.length = fs.size ∧ ∀ x ∈ l, (Lit.int k x).wf = true := by
  obtain ⟨cs, rfl, hsz⟩ := okWide_struct hs hv
  obtain ⟨fuel, hf⟩ := h
  obtain ⟨xs, n, _, _, _, hlen, hx⟩ := DataW.trod_struct hs hf
  have each : ∀ i, i < cs.size → ∃ x : Int, cs[i]? = some (.int k x) ∧ (Lit.int k x).wf = true := by
    intro i hlt
    have hlt' : i < fs.size := by omega
    obtain ⟨o, c1⟩ := hone_of hone i fs[i] (by simp [hlt'])
    have h1 := hx i fs[i] (by simp [hlt'])
    have h2 : xs[i]? = some xs[i] := by simp
    rw [h2] at h1
    obtain ⟨m, hm, _, wf⟩ := DataW.trod_int (hi i fs[i] (by simp [hlt'])) h1
    refine ⟨m, ?_, wf⟩
    rw [o, c1] at hm
    have h3 : ((cs.toList.drop i).take 1)[0]? = some (.int k m) := by
      have : (Value.agg cs).cells.toList = cs.toList := rfl
      rw [this] at hm
      rw [hm]; rfl
    rw [List.getElem?_take, if_pos (by omega), List.getElem?_drop] at h3
    simpa using h3
  have all : ∀ (l : List Value), (∀ i, i < l.length → ∃ x : Int, l[i]? = some (.int k x) ∧ (Lit.int k x).wf = true) → ∃ xs : List Int, l = xs.map (Value.int k) ∧ ∀ x ∈ xs, (Lit.int k x).wf = true := by
    intro l
    induction l with
    | nil => intro _; exact ⟨[], rfl, by simp⟩
    | cons a l ih =>
      intro hl
      obtain ⟨x, hx0, wx⟩ := hl 0 (by simp)
      obtain ⟨ys, e, wy⟩ := ih fun i hi => by
        have := hl (i + 1) (by simpa using hi)
        simpa using this
      simp only [List.getElem?_cons_zero, Option.some.injEq] at hx0
      exact ⟨x :: ys, by rw [hx0, e]; rfl, by simpa using ⟨wx, wy⟩⟩
  obtain ⟨l, e, wl⟩ := all cs.toList fun i hi => by simpa using each i (by simpa using hi)
  refine ⟨l, ?_, ?_, wl⟩
  · congr 1
    rw [← e]
  · have : cs.toList.length = l.length := by rw [e, List.length_map]
    simp only [Array.length_toList] at this
    omega
theorem i64_of_wf {x : Int} (h : (Lit.int .i64 x).wf = true) : -9223372036854775808 ≤ x ∧ x ≤ 9223372036854775807 := by
  simp only [Lit.wf, Bool.and_eq_true, decide_eq_true_eq] at h
  exact h
end Go.Proofs.YtnlheljpagpiiaaGreat
