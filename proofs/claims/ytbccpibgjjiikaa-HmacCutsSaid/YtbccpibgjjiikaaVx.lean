/-
  Memory made: boxes, rows, what append makes.
-/
import Derived.Test.YtbccpibgjjiikaaVw
set_option linter.unusedVariables false
set_option linter.unusedSimpArgs false
namespace Go.Proofs.Ytbccpibgjjiikaa
variable {G : Cx} {hs : Hp} {T : Tab} {env : Env} {ρ : Operand → Value}

/-- So many zero elements. -/
def zerosL (n : Nat) : List Value → List Value
  | [v] => List.replicate n v
  | z => (List.range (n * z.length)).map fun i => z.toArray[i % z.length]!
theorem zeros_eq (n : Nat) (z : List Value) : ((Array.range (n * z.length)).map fun i => z.toArray[i % z.length]!) = (zerosL n z).toArray := by
  apply Array.ext'
  simp only [Array.toList_map, Array.toList_range]
  unfold zerosL
  split
  · rename_i v
    simp only [List.length_cons, List.length_nil, Nat.zero_add, Nat.mul_one, Nat.mod_one]
    apply List.ext_getElem
    · simp
    · intro i h1 h2; simp
  · rfl
theorem zeros_len (n : Nat) (z : List Value) : (zerosL n z).length = n * z.length := by
  unfold zerosL
  split
  · simp
  · simp

theorem zeroOf_cells {P : Program} {t : Nat} {i : TyI} (hi : TyOK P t i) : (zeroOf i).cells = i.zero.toArray := by
  unfold zeroOf
  cases ha : i.agg with
  | true => simp [Value.cells]
  | false =>
    obtain ⟨v, hv, hc⟩ := hi.zone ha
    rw [hv]
    exact hc

theorem does_new {cs : Array Value} {t : TypeId} {Kn : Nat → Hp → Prop} (h : ∀ b, Kn b (⟨b, cs.toList, t, (0, 0)⟩ :: hs)) : Does G (newObj (.cells cs t)) hs Kn :=
  does_of_svc (m := newObj (.cells cs t)) (fun b => h b)
theorem does_newRow {cs : Array Value} {t : TypeId} {Ka : Addr → Hp → Prop} (h : ∀ b, Ka ⟨b, 0, none⟩ (⟨b, cs.toList, t, (0, 0)⟩ :: hs)) : Does G (newRow t cs) hs Ka :=
  Does.bind (does_new fun b => Does.pure (h b))
theorem does_alloc {t : Nat} {i : TyI} {K : Value → Hp → Prop} (hi : TyOK G.P t i) (h : ∀ b, K (.pointer (some ⟨b, 0, none⟩)) (⟨b, i.zero, t, (0, 0)⟩ :: hs)) :
    Does G (Instr.alloc t true (.tuple #[])) hs K := by
  unfold Instr.alloc
  refine Does.bind (Does.quiet (q_zeroValue hi ?_))
  refine Does.bind (m := newVar t (zeroOf i)) (does_newRow fun b => Does.pure ?_)
  rw [zeroOf_cells hi]
  exact h b
theorem does_box {t : Nat} {v : Value} {K : Value → Hp → Prop} (h : ∀ b, K (.pointer (some ⟨b, 0, none⟩)) (⟨b, cellsL v, t, (0, 0)⟩ :: hs)) :
    Does G (Instr.box t v) hs K := by
  unfold Instr.box
  refine Does.bind (m := newVar t v) (does_newRow fun b => Does.pure ?_)
  rw [cells_eq]
  exact h b
def buildRowK (T : Tab) (t n : Nat) (parts : List (Nat × Value)) (K : Nat → List Value → Prop) : Prop := match look T.ts t with
  | some i => match i.d with
    | .slice e => match look T.ts e with
      | some j => Need (n * j.size ≤ 16777216) (partsK (fun q k => k (q * j.size) j.size) (fun l => K e l) (zerosL n j.zero) parts)
      | none => False
    | _ => False
  | none => False
theorem does_buildSlice {t n : Nat} {parts : Array (Nat × Value)} {K : Value → Hp → Prop} (hT : TabOK G.P T)
    (h : buildRowK T t n parts.toList fun e l => ∀ b, K (.slice (some ⟨b, 0, none⟩) n n) (⟨b, l, e, (0, 0)⟩ :: hs)) : Does G (Instr.buildSlice t n parts) hs K := by
  unfold buildRowK at h
  split at h
  · rename_i i hl
    have hd := look_desc hT hl
    split at h
    · rename_i e hdd
      simp only [hdd, descOk] at hd
      split at h
      · rename_i j hj
        have hj' := hT.ts e j hj
        obtain ⟨hn, h⟩ := Need.out h
        unfold Instr.buildSlice
        refine Does.bind (Does.quiet (q_underlying hd ?_))
        dsimp only
        refine Does.bind (Does.quiet (q_sizeOf hj' ?_))
        rw [if_neg (by omega)]
        obtain ⟨l', h1, h2⟩ := fill_out (fun i => some (i * j.size, j.size)) _ (fun i k hk => ⟨_, _, rfl, hk⟩) _ _ _ h
        have fin : Does G (do let a ← newRow e l'.toArray; pure (Value.slice (some a) n n)) hs K :=
          Does.bind (does_newRow fun b => Does.pure (h2 b))
        by_cases h0 : n * j.size = 0
        · have hz : ((Array.range (n * j.size)).map fun x => (#[] : Array Value)[x % (#[] : Array Value).size]!) = (zerosL n j.zero).toArray := by
            have hl0 : zerosL n j.zero = [] := List.eq_nil_of_length_eq_zero (by rw [zeros_len, hj'.zlen]; exact h0)
            rw [hl0, h0]; simp
          rw [if_pos h0]
          refine Does.bind (Does.pure ?_)
          rw [hz, h1]
          exact fin
        · rw [if_neg h0]
          refine Does.bind (m := zeroValue e) (Does.quiet (q_zeroValue hj' ?_))
          refine Does.bind (Does.pure ?_)
          rw [zeroOf_cells hj']
          have hz := zeros_eq n j.zero
          rw [hj'.zlen] at hz
          simp only [List.size_toArray, hj'.zlen]
          rw [hz, h1]
          exact fin
      · exact h.elim
    · exact h.elim
  · exact h.elim

def makeK (T : Tab) (t : Nat) (l c : Value) (K : Nat → Nat → Nat → List Value → Prop) : Prop := match l, c with
  | .int .i64 l, .int .i64 c => match look T.ts t with
    | some i => match i.d with
      | .slice e => match look T.ts e with
        | some j => Need (0 ≤ l ∧ l ≤ c ∧ c * j.bytes ≤ 281474976710656 ∧ 1 ≤ j.bytes) (K l.toNat c.toNat e (zerosL c.toNat j.zero))
        | none => False
      | _ => False
    | none => False
  | _, _ => False
theorem does_askRoom {n : Nat} {Ku : Unit → Hp → Prop} (h : Ku () hs) : Does G (askRoom n) hs Ku := by
  unfold askRoom
  split
  · exact does_of_svc (m := mark .noRoom) h
  · exact Does.pure h
theorem does_asInt {k : IntKind} {n : Int} {Ki : Int → Hp → Prop} (h : Ki n hs) : Does G (asInt (.int k n)) hs Ki := fun w hw => ⟨n, w, hs, rfl, hw, h⟩
theorem wrap_i64 {x : Int} (h1 : -9223372036854775808 ≤ x) (h2 : x ≤ 9223372036854775807) : IntKind.i64.wrap x = x := by
  unfold IntKind.wrap
  simp [IntKind.signed, IntKind.bits]
  omega
theorem does_makeSlice {t : Nat} {l c : Value} {K : Value → Hp → Prop} (hT : TabOK G.P T)
    (h : makeK T t l c fun l c e z => ∀ b, K (.slice (some ⟨b, 0, none⟩) l c) (⟨b, z, e, (0, 0)⟩ :: hs)) : Does G (Instr.makeSlice t l c) hs K := by
  unfold makeK at h
  split at h
  · rename_i l c
    split at h
    · rename_i i hl
      have hd := look_desc hT hl
      split at h
      · rename_i e hdd
        simp only [hdd, descOk] at hd
        split at h
        · rename_i j hj
          have hj' := hT.ts e j hj
          obtain ⟨ti, hti, hs1, hs2, hs3⟩ := hj'.look
          obtain ⟨⟨h1, h2, h3, h4⟩, h⟩ := Need.out h
          have hc0 : 0 ≤ c := by omega
          have hcb : c ≤ 281474976710656 := by
            have : c * 1 ≤ c * (j.bytes : Int) := Int.mul_le_mul_of_nonneg_left (by omega) hc0
            omega
          unfold Instr.makeSlice
          refine Does.bind (Does.quiet (q_underlying hd ?_))
          dsimp only
          refine Does.bind (does_asInt ?_)
          refine Does.bind (does_asInt ?_)
          refine Does.bind (Does.quiet (q_typeInfo hti ?_))
          rw [wrap_i64 (x := l) (by omega) (by omega), wrap_i64 (x := c) (by omega) (by omega), hs2]
          have hb : (j.bytes : Int) * c ≤ 281474976710656 := by rw [Int.mul_comm]; exact h3
          have hlc : (j.bytes : Int) * l ≤ 281474976710656 := Int.le_trans (Int.mul_le_mul_of_nonneg_left h2 (by omega)) hb
          rw [if_neg (by simp; omega)]
          refine Does.bind (does_askRoom ?_)
          refine Does.bind (Does.quiet (q_sizeOf hj' ?_))
          have fin : ∀ z : Array Value, z.toList = zerosL c.toNat j.zero → Does G (do let a ← newRow e z; pure (Value.slice (some a) l.toNat c.toNat)) hs K := fun z hz =>
            Does.bind (does_newRow fun b => Does.pure (by rw [hz]; exact h b))
          by_cases h0 : c.toNat * j.size = 0
          · rw [if_pos h0]
            refine Does.bind (Does.pure (fin _ ?_))
            rw [h0]
            have : zerosL c.toNat j.zero = [] := List.eq_nil_of_length_eq_zero (by rw [zeros_len, hj'.zlen]; exact h0)
            rw [this]; simp
          · rw [if_neg h0]
            refine Does.bind (m := zeroValue e) (Does.quiet (q_zeroValue hj' ?_))
            refine Does.bind (Does.pure (fin _ ?_))
            rw [zeroOf_cells hj']
            have hz := zeros_eq c.toNat j.zero
            rw [hj'.zlen] at hz
            simp only [List.size_toArray, hj'.zlen]
            rw [hz]
        · exact h.elim
      · exact h.elim
    · exact h.elim
  · exact h.elim

end Go.Proofs.Ytbccpibgjjiikaa
