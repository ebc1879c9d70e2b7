/-
  What a walk by conditions leans on: calls by their contracts; numbers that fit.
-/
import Derived.Test.YtbccpibgjjiikaaWh
set_option linter.unusedVariables false
set_option linter.unusedSimpArgs false
namespace Go.Proofs.Ytbccpibgjjiikaa
variable {G : Cx} {T : Tab}

structure Done (p : Prop) : Prop where mk ::
  out : p

/-- A call of a function from a world, in which nothing that was there is changed. -/
structure Ret (P : Program) (f : Nat) (args : List Value) (w : World) (R : Value → Hp → Prop) : Prop where wrap ::
  calls : Calls P f args.toArray w (Post ⟨P, w, []⟩ R)

theorem Post.mono {K K' : Value → Hp → Prop} (hk : ∀ v hs, K v hs → K' v hs) : ∀ e w, Post G K e w → Post G K' e w := fun e w ⟨v, hs, he, h, hw⟩ => ⟨v, hs, he, hk _ _ h, hw⟩
theorem calls_vc {P : Program} {f : Nat} {fn : Func} {c : Code} {args : List Value} {hs : Hp} {K : Value → Hp → Prop} (hP : G.P = P) (hT : TabOK P T) (hfn : P.funcs[f]? = some fn) (hb : fn.body = some c)
    (hn : Nat.ble args.length fn.ntmps = true) (hw : St G hs G.w0)
    (h : codeVC G T fn.ntmps c (mkEnv args 0) hs (retK G T fn.results.toList fun v hs => Done (K v hs)) (fun _ _ _ => False) (retK G T fn.results.toList fun v hs => Done (K v hs))) :
    Calls P f args.toArray G.w0 (Post G K) :=
  (calls_of_vc hP hT hfn hb (Nat.le_of_ble_eq_true hn) hw h).mono (Post.mono fun v hs h => h.out)
theorem ret_vc {P : Program} {f : Nat} {fn : Func} {c : Code} {args : List Value} {w : World} {K : Value → Hp → Prop} (hT : TabOK P T) (hfn : P.funcs[f]? = some fn) (hb : fn.body = some c)
    (hn : Nat.ble args.length fn.ntmps = true)
    (h : codeVC ⟨P, w, []⟩ T fn.ntmps c (mkEnv args 0) [] (retK ⟨P, w, []⟩ T fn.results.toList fun v hs => Done (K v hs)) (fun _ _ _ => False) (retK ⟨P, w, []⟩ T fn.results.toList fun v hs => Done (K v hs))) :
    Ret P f args w K := ⟨calls_vc (G := ⟨P, w, []⟩) rfl hT hfn hb hn (st_self _ _) h⟩

theorem St.trans {hs hs2 : Hp} {w w' : World} (h : St G hs w) (h2 : St ⟨G.P, w, []⟩ hs2 w') : St G (hs2 ++ hs) w' := by
  have hold : ∀ b, b < w.heap.size → w'.heap[b]? = w.heap[b]? := fun b hb => h2.old b hb (by simp)
  have h2n : ∀ e ∈ hs2, w.heap.size ≤ e.b := fun e he => (h2.new e he).resolve_right (by simp)
  refine ⟨h2.os.trans h.os, h2.tape.trans h.tape, h2.output.trans h.output, Nat.le_trans h.size h2.size, ?_, ?_, ?_, ?_⟩
  · intro b hb hf
    rw [hold b (Nat.lt_of_lt_of_le hb h.size)]
    exact h.old b hb hf
  · intro e he
    rcases List.mem_append.1 he with he | he
    · exact h2.own e he
    · rw [hold _ (h.lt he)]
      exact h.own e he
  · rw [List.map_append, List.nodup_append]
    refine ⟨h2.nodup, h.nodup, ?_⟩
    intro x hx y hy hxy
    obtain ⟨e, he, rfl⟩ := List.mem_map.1 hx
    obtain ⟨e', he', rfl⟩ := List.mem_map.1 hy
    have := h2n e he
    have := h.lt he'
    omega
  · intro e he
    rcases List.mem_append.1 he with he | he
    · exact .inl (Nat.le_trans h.size (h2n e he))
    · exact h.new e he

theorem CallVC.of {hs : Hp} {f : Nat} {args : List Value} {K R : Value → Hp → Prop} (hc : ∀ w, St G hs w → Ret G.P f args w R) (hk : ∀ v hs2, R v hs2 → K v (hs2 ++ hs)) : CallVC G hs f args K := by
  rw [CallVC_eq]
  refine ⟨fun v hs' => ∃ hs2, hs' = hs2 ++ hs ∧ R v hs2, fun w hw => (hc w hw).calls.mono ?_, ?_⟩
  · rintro e w' ⟨v, hs2, rfl, hr, hst⟩
    exact ⟨v, hs2 ++ hs, rfl, ⟨hs2, rfl, hr⟩, hw.trans hst⟩
  · rintro v hs' ⟨hs2, rfl, hr⟩
    exact hk v hs2 hr
/-- A callee that hands back a value and leaves nothing to be known. -/
theorem CallVC.val {hs : Hp} {f : Nat} {args : List Value} {K : Value → Hp → Prop} {v : Value} (hc : ∀ w, St G hs w → Ret G.P f args w fun u hs2 => u = v ∧ hs2 = []) (hk : K v hs) : CallVC G hs f args K :=
  CallVC.of hc fun u hs2 ⟨h1, h2⟩ => by subst h1 h2; exact hk
theorem QuietVC.val {hs : Hp} {f : Nat} {args : List Value} {K : Value → Prop} {v : Value} (hc : ∀ w, St G hs w → Ret G.P f args w fun u hs2 => u = v ∧ hs2 = []) (hk : K v) : QuietVC G hs f args K := by
  rw [QuietVC_eq]
  refine ⟨v, fun hs1 w hw1 hw => (hc w (hw w hw1)).calls.mono ?_, hk⟩
  rintro e w' ⟨u, hs2, rfl, ⟨rfl, rfl⟩, hst⟩
  exact ⟨rfl, hw1.trans hst⟩

/-- A call that hands back one value, and of which nothing else is to be known. -/
abbrev Val (P : Program) (f : Nat) (args : List Value) (w : World) (v : Value) : Prop := Ret P f args w fun u hs2 => u = v ∧ hs2 = []
theorem val_vc {P : Program} {f : Nat} {fn : Func} {c : Code} {args : List Value} {w : World} {v : Value} (hT : TabOK P T) (hfn : P.funcs[f]? = some fn) (hb : fn.body = some c)
    (hn : Nat.ble args.length fn.ntmps = true)
    (h : codeVC ⟨P, w, []⟩ T fn.ntmps c (mkEnv args 0) [] (retK ⟨P, w, []⟩ T fn.results.toList fun u _ => Done (u = v)) (fun _ _ _ => False) (retK ⟨P, w, []⟩ T fn.results.toList fun u _ => Done (u = v))) :
    Val P f args w v := by
  have := ret_vc (K := fun u _ => u = v) hT hfn hb hn h
  refine ⟨this.calls.mono ?_⟩
  rintro e w' ⟨u, hs, he, hu, hst⟩
  exact ⟨u, [], he, ⟨hu, rfl⟩, hst.sub (List.nil_sublist _)⟩
theorem CallVC.ite {hs : Hp} {f : Nat} {args : List Value} {K : Value → Hp → Prop} {p : Prop} [Decidable p] {a b : Value} (hc : ∀ w, St G hs w → Val G.P f args w (if p then a else b)) (h1 : p → K a hs) (h0 : ¬ p → K b hs) : CallVC G hs f args K := by
  refine CallVC.val hc ?_
  by_cases hp : p
  · rw [if_pos hp]; exact h1 hp
  · rw [if_neg hp]; exact h0 hp
theorem QuietVC.ite {hs : Hp} {f : Nat} {args : List Value} {K : Value → Prop} {p : Prop} [Decidable p] {a b : Value} (hc : ∀ w, St G hs w → Val G.P f args w (if p then a else b)) (h1 : p → K a) (h0 : ¬ p → K b) : QuietVC G hs f args K := by
  refine QuietVC.val hc ?_
  by_cases hp : p
  · rw [if_pos hp]; exact h1 hp
  · rw [if_neg hp]; exact h0 hp

/-! ### Numbers that fit -/
theorem fit_i64 {x : Int} (h1 : -9223372036854775808 ≤ x) (h2 : x ≤ 9223372036854775807) : x = IntKind.i64.wrap x := (wrap_i64 h1 h2).symm
theorem fit_u64 {x : Int} (h1 : 0 ≤ x) (h2 : x ≤ 18446744073709551615) : x = IntKind.u64.wrap x := by
  simp [IntKind.wrap, IntKind.signed, IntKind.bits]; omega
theorem fit_u32 {x : Int} (h1 : 0 ≤ x) (h2 : x ≤ 4294967295) : x = IntKind.u32.wrap x := by
  simp [IntKind.wrap, IntKind.signed, IntKind.bits]; omega
theorem fit_u8 {x : Int} (h1 : 0 ≤ x) (h2 : x ≤ 255) : x = IntKind.u8.wrap x := by
  simp [IntKind.wrap, IntKind.signed, IntKind.bits]; omega
theorem fit_u16 {x : Int} (h1 : 0 ≤ x) (h2 : x ≤ 65535) : x = IntKind.u16.wrap x := by
  simp [IntKind.wrap, IntKind.signed, IntKind.bits]; omega
theorem quo_i64 {m n : Int} (h0 : 0 ≤ m) (h1 : m ≤ 9223372036854775807) (hn : 0 < n) : m / n = IntKind.i64.wrap (m.tdiv n) := by
  rw [Int.tdiv_eq_ediv_of_nonneg h0]
  have h2 : 0 ≤ m / n := Int.ediv_nonneg h0 (Int.le_of_lt hn)
  have h3 : m / n ≤ m := Int.ediv_le_self n h0
  exact (wrap_i64 (by omega) (by omega)).symm
theorem quo_u8 {m n : Int} (h0 : 0 ≤ m) (h1 : m ≤ 255) (hn : 0 < n) : m / n = IntKind.u8.wrap (m.tdiv n) := by
  rw [Int.tdiv_eq_ediv_of_nonneg h0]
  have h2 : 0 ≤ m / n := Int.ediv_nonneg h0 (Int.le_of_lt hn)
  have h3 : m / n ≤ m := Int.ediv_le_self n h0
  exact fit_u8 (by omega) (by omega)
theorem rem_pos {m n : Int} (h0 : 0 ≤ m) : m % n = m.tmod n := (Int.tmod_eq_emod_of_nonneg h0).symm

/-! ### Loops -/
theorem Sub.nil {e : Env} : Sub [] e := fun i v h => by cases h
theorem Sub.cons {e r : Env} {i : Nat} {v : Value} (h : lk e i = some v) (hr : Sub r e) : Sub ((i, v) :: r) e := by
  intro j u hj
  simp only [lk] at hj
  split at hj
  · rename_i hb
    obtain rfl := Nat.eq_of_beq_eq_true hb
    rw [h]; exact hj
  · exact hr j u hj
theorem Weak.mk {I : Env → Hp → Prop} {env env' : Env} {hs hs' : Hp} (h1 : Sub env' env) (h2 : hs'.Sublist hs) (h : I env' hs') : Weak G I env hs := ⟨env', hs', h1, fun w hw => hw.sub h2, h⟩
/-- Once more round, by a lesser number. -/
theorem again {I : Nat → Env → Hp → Prop} {env env' : Env} {hs hs' : Hp} {n : Nat} (m : Nat) (hm : m < n) (h1 : Sub env' env) (h2 : hs'.Sublist hs) (h : I m env' hs') : ∃ m, m < n ∧ Weak G (I m) env hs := ⟨m, hm, Weak.mk h1 h2 h⟩

end Go.Proofs.Ytbccpibgjjiikaa
