/-
  append, copy, the bytes of a text; calls.
-/
import Derived.Test.YtbccpibgjjiikaaVx
set_option linter.unusedVariables false
set_option linter.unusedSimpArgs false
namespace Go.Proofs.Ytbccpibgjjiikaa
variable {G : Cx} {hs : Hp} {T : Tab} {env : Env} {ρ : Operand → Value}

/-- The cells that a slice (or a text) is made of. -/
inductive Holds (G : Cx) (hs : Hp) (size : Nat) : Value → Nat → List Value → Prop
  | nil (A : Option Addr) (c : Nat) : Holds G hs size (.slice A 0 c) 0 []
  | row {a : Addr} {n c : Nat} {xs : List Value} (hl : xs.length = n * size) (hc : G.cellsAre hs a xs) : Holds G hs size (.slice (some a) n c) n xs
  | text {s : ByteArray} (h1 : size = 1) : Holds G hs size (.string s) s.size (s.data.toList.map fun b => .int .u8 b.toNat)
theorem Holds.len {size n : Nat} {v : Value} {xs : List Value} (h : Holds G hs size v n xs) : xs.length = n * size := by
  cases h with
  | nil => simp
  | row hl hc => exact hl
  | text h1 => subst h1; rw [List.length_map, Nat.mul_one, Array.length_toList]; rfl
theorem Holds.slice_len {size n n' c : Nat} {A : Option Addr} {xs : List Value} (h : Holds G hs size (.slice A n' c) n xs) : n' = n := by
  cases h <;> rfl
theorem q_lenOf {size n : Nat} {v : Value} {xs : List Value} {Kn : Nat → Prop} (h : Holds G hs size v n xs) (hk : Kn n) : qvc G (Builtin.lenOf v) hs Kn := by
  cases h <;> exact hk
theorem q_firstCells {size n : Nat} {v : Value} {xs : List Value} {Ka : Array Value → Prop} (h : Holds G hs size v n xs) (hk : Ka xs.toArray) : qvc G (Builtin.firstCells size n v) hs Ka := by
  cases h with
  | nil A c =>
    cases A with
    | none => exact hk
    | some a =>
      show qvc G (loadCells a (0 * size)) hs Ka
      rw [Nat.zero_mul]
      exact hk
  | row hl hc => exact q_loadCells hl hc hk
  | text h1 =>
    rename_i s
    show Ka _
    have e : (s.extract 0 s.size).data.map (fun b => Value.int .u8 b.toNat) = (s.data.toList.map fun b => Value.int .u8 (b.toNat : Int)).toArray := by
      have : s.extract 0 s.size = s := by simp
      rw [this]
      apply Array.ext'
      simp
    rw [e]; exact hk

theorem grow_bound (need : Nat) : ∀ (r c : Nat), c ≤ need → Builtin.growBy need r c ≤ 2 * need + 192
  | 0, c, h => by simp only [Builtin.growBy]; omega
  | r + 1, c, h => by
    simp only [Builtin.growBy]
    split
    · omega
    · by_cases h2 : c + (c + 768) / 4 ≤ need
      · exact grow_bound need r _ h2
      · have : ∀ r c, need ≤ c → Builtin.growBy need r c = c := by
          intro r c hc
          cases r with
          | zero => rfl
          | succ r => simp only [Builtin.growBy]; rw [if_pos hc]
        rw [this r _ (by omega)]
        omega
theorem next_bound (need old : Nat) (h : old < need) : Builtin.nextslicecap need old ≤ 2 * need + 192 := by
  unfold Builtin.nextslicecap
  split
  · omega
  · split
    · omega
    · exact grow_bound need 4 old (by omega)

structure AppendVC (G : Cx) (hs : Hp) (t tx : Nat) (s x : Value) (K : Value → Hp → Prop) : Prop where wrap ::
  raw : ∀ ty, Does G (Builtin.append_ #[t, tx] ty #[s, x]) hs K
theorem AppendVC_eq (G : Cx) (hs : Hp) (t tx : Nat) (s x : Value) (K : Value → Hp → Prop) : AppendVC G hs t tx s x K = (∀ ty, Does G (Builtin.append_ #[t, tx] ty #[s, x]) hs K) := propext ⟨fun h => h.raw, fun h => ⟨h⟩⟩

theorem AppendVC.any {t tx e : Nat} {i j l : TyI} {base : Option Addr} {sLen sCap n : Nat} {x : Value} {olds news : List Value} {K : Value → Hp → Prop} (hT : TabOK G.P T)
    (hi : look T.ts t = some i) (hd : i.d = .slice e) (hj : look T.ts e = some j) (hl : look T.ts tx = some l) (hld : l.d = .str ∨ ∃ q, l.d = .slice q)
    (hold : Holds G hs j.size (.slice base sLen sCap) sLen olds) (hnew : Holds G hs j.size x n news) (hb1 : 1 ≤ j.bytes)
    (room : sCap < sLen + n → (2 * (sLen + n) + 192) * j.bytes ≤ 281474976710656)
    (hgrow : sCap < sLen + n → ∀ b cap', sLen + n ≤ cap' → K (.slice (some ⟨b, 0, none⟩) (sLen + n) cap') (⟨b, olds ++ news ++ zerosL (cap' - (sLen + n)) j.zero, e, (0, 0)⟩ :: hs))
    (hfit : sLen + n ≤ sCap → (base = none → K (.slice none (sLen + n) sCap) hs) ∧ ∀ a, base = some a → StoreVC G hs (a.add (sLen * j.size)) news (fun hs' => K (.slice base (sLen + n) sCap) hs')) :
    AppendVC G hs t tx (.slice base sLen sCap) x K := by
  rw [AppendVC_eq]
  intro ty
  have hdd := look_desc hT hi
  simp only [hd, descOk] at hdd
  have hdl := look_desc hT hl
  have hj' := hT.ts e j hj
  obtain ⟨ti, hti, hs1, hs2, hs3⟩ := hj'.look
  unfold Builtin.append_
  rcases hld with h | ⟨q, h⟩ <;> simp only [h, descOk] at hdl
  all_goals
    simp only [List.getElem?_toArray, List.getElem?_cons_zero, List.getElem?_cons_succ]
    refine Does.bind (Does.quiet (q_underlying hdd ?_))
    dsimp only
    refine Does.bind (Does.quiet (q_sizeOf hj' ?_))
    refine Does.bind (Does.quiet (q_underlying hdl ?_))
    refine Does.bind (Does.pure ?_)
    simp only [Bool.false_eq_true, if_false, Bool.not_false, if_true]
    refine Does.bind (m := Builtin.lenOf x) (Does.quiet (q_lenOf hnew ?_))
    by_cases hfitc : sLen + n ≤ sCap
    · rw [if_pos hfitc]
      refine Does.bind (m := Builtin.firstCells j.size n x) (Does.quiet (q_firstCells hnew ?_))
      obtain ⟨h1, h2⟩ := hfit hfitc
      cases base with
      | none => exact Does.pure (h1 rfl)
      | some a =>
        have h3 := h2 a rfl
        rw [StoreVC_eq] at h3
        refine Does.bind (m := storeCells (a.add (sLen * j.size)) news.toArray.toList) (f := fun _ => pure _) ?_
        exact h3.mono fun _ hs' hk => Does.pure hk
    · rw [if_neg hfitc]
      have hlt : sCap < sLen + n := by omega
      have hrm := room hlt
      refine Does.bind (Does.quiet (q_typeInfo hti ?_))
      have hnb : ¬ ((sLen + n : Nat) : Int) > IntKind.i64.max := by
        have : IntKind.i64.max = 9223372036854775807 := by decide
        rw [this]
        have : (2 * (sLen + n) + 192) * 1 ≤ (2 * (sLen + n) + 192) * j.bytes := Nat.mul_le_mul_left _ hb1
        omega
      rw [if_neg (fun h => hnb h.1)]
      refine Does.bind (Does.quiet (q_typeInfo hti ?_))
      have hnx : ¬ Builtin.nextslicecap (sLen + n) sCap * ti.bytes > 2 ^ 48 := by
        rw [hs2]
        have h1 := next_bound (sLen + n) sCap hlt
        have := Nat.mul_le_mul_right j.bytes h1
        omega
      rw [if_neg hnx]
      have hch : ∀ {Kc : Nat → Hp → Prop}, (∀ c, sLen + n ≤ c → Kc c hs) → Does G (choose (.appendCap (sLen + n) sCap e)) hs Kc := by
        intro Kc hk
        refine does_of_svc (m := choose (.appendCap (sLen + n) sCap e)) ?_
        rintro c ⟨t', ht'⟩
        refine hk c ?_
        rw [ht']
        simp [Question.forced, Question.cut]
      refine Does.bind (hch fun c hc => ?_)
      refine Does.bind (Does.quiet (q_typeInfo hti ?_))
      refine Does.bind (does_askRoom ?_)
      refine Does.bind (m := Builtin.firstCells j.size sLen (.slice base sLen sCap)) (Does.quiet (q_firstCells hold ?_))
      refine Does.bind (m := Builtin.firstCells j.size n x) (Does.quiet (q_firstCells hnew ?_))
      refine Does.bind (m := zeroValue e) (Does.quiet (q_zeroValue hj' ?_))
      refine Does.bind (does_newRow fun b => Does.pure ?_)
      have hz : (olds.toArray ++ news.toArray ++ Builtin.zeroCells (zeroOf j).cells (c - (sLen + n))).toList = olds ++ news ++ zerosL (c - (sLen + n)) j.zero := by
        have := zeros_eq (c - (sLen + n)) j.zero
        unfold Builtin.zeroCells
        rw [zeroOf_cells hj']
        simp only [List.size_toArray]
        rw [this]
        simp
      rw [hz]
      exact hgrow hlt b c hc

end Go.Proofs.Ytbccpibgjjiikaa
