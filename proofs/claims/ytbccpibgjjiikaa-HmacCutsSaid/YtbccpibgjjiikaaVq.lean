/-
  That the machine does what the conditions of the reading operations say.
-/
import Derived.Test.YtbccpibgjjiikaaVp
set_option linter.unusedVariables false
set_option linter.unusedSimpArgs false
namespace Go.Proofs.Ytbccpibgjjiikaa
variable {G : Cx} {hs : Hp} {T : Tab} {env : Env} {ρ : Operand → Value} {K : Value → Prop}

/-- A value that the machine puts into its slot. -/
def Yes (K : Value → Prop) : Next → Prop := fun nx => ∃ v, nx = .value v ∧ K v
theorem q_value {m : Sem Value} (h : qvc G m hs K) : qvc G (do pure (Next.value (← m))) hs (Yes K) := by
  refine qvc_bind _ _ _ _ ?_
  have h2 : ∀ {α : Type} (m : Sem α) (K K' : α → Prop), (∀ a, K a → K' a) → qvc G m hs K → qvc G m hs K' := by
    intro α m
    induction m with
    | pure a => intro K K' hk h; exact hk _ h
    | load m a k ih => intro K K' hk h; obtain ⟨v, hv, h⟩ := h; exact ⟨v, hv, ih v K K' hk h⟩
    | shape r k ih => intro K K' hk h; obtain ⟨e, he, hr, h⟩ := h; exact ⟨e, he, hr, ih _ K K' hk h⟩
    | program k ih => intro K K' hk h; exact ih _ K K' hk h
    | mark m k ih => intro K K' hk h; exact ih K K' hk h
    | _ => intro K K' hk h; exact h.elim
  exact h2 m K _ (fun a ha => ⟨a, rfl, ha⟩) h

theorem look_desc {P : Program} (hT : TabOK P T) {t : Nat} {i : TyI} (h : look T.ts t = some i) : descOk P t i.d := (hT.ts t i h).desc

theorem q_wrap {k : IntKind} {x : Int} (h : wrapK k x K) : qvc G (pure (Value.int k (k.wrap x)) : Sem Value) hs K := by
  obtain ⟨r, rfl, hk⟩ := h.out
  exact hk
theorem bool_of {p : Prop} [Decidable p] {K : Bool → Prop} (h : Split p K) : K (decide p) := h.dec
theorem yes_bool {b : Bool} (h : yesK K b) : K (.bool b) := by cases b <;> exact h
theorem not_bool {b : Bool} (h : notK K b) : K (.bool (!b)) := by cases b <;> exact h
theorem kindEq_out {k k' : IntKind} (h : kindEq k k' = true) : k = k' := by
  unfold kindEq at h
  split at h
  · assumption
  · cases h

theorem q_intK {op : BinOp} {k : IntKind} {m n : Int} (hs' : isShift op = false) (h : intK op k m n K) (t : Nat) :
    qvc G (binOp op t (.int k m) (.int k n)) hs K := by
  cases op <;> simp only [isShift] at hs' <;> first | (exact absurd hs' (by decide)) | skip
  all_goals (simp only [intK] at h; simp only [binOp, ne_eq, not_true_eq_false, if_false, Op.intArith, Op.intDiv, Op.intBits, Op.intCmp, ite_false])
  case add => exact q_wrap h
  case sub => exact q_wrap h
  case mul => exact q_wrap h
  case quo => obtain ⟨h0, h⟩ := h.out; rw [if_neg h0]; exact q_wrap h
  case rem => obtain ⟨h0, h⟩ := h.out; rw [if_neg h0]; obtain ⟨r, rfl, h⟩ := h.out; exact h
  case and => obtain ⟨r, rfl, h⟩ := h.out; exact h
  case or => obtain ⟨r, rfl, h⟩ := h.out; exact h
  case xor => obtain ⟨r, rfl, h⟩ := h.out; exact h
  case andNot => obtain ⟨r, rfl, h⟩ := h.out; exact h
  case eql => have := yes_bool (h.dec); show K _; rwa [show (m == n) = decide (m = n) from rfl]
  case neq => have := not_bool (h.dec); show K _; rwa [show (m != n) = !decide (m = n) from rfl]
  case lss => exact yes_bool (h.dec)
  case leq => exact yes_bool (h.dec)
  case gtr => exact yes_bool (h.dec)
  case geq => exact yes_bool (h.dec)
theorem q_shiftK {op : BinOp} {k k' : IntKind} {m n : Int} (hs' : isShift op = true) (h : shiftK op k m n K) (t : Nat) :
    qvc G (binOp op t (.int k m) (.int k' n)) hs K := by
  cases op <;> simp only [isShift] at hs' <;> first | (exact absurd hs' (by decide)) | skip
  case shl =>
    obtain ⟨h0, h⟩ := Need.out h
    obtain ⟨r, rfl, h⟩ := h.out
    simp only [binOp, Op.shift]
    rw [if_neg (by omega)]
    exact h
  case shr =>
    obtain ⟨h0, h⟩ := Need.out h
    obtain ⟨r, rfl, h⟩ := h.out
    simp only [binOp, Op.shift]
    rw [if_neg (by omega)]
    exact h
theorem beq_toList (a b : ByteArray) : (a.toList == b.toList) = decide (a.toList = b.toList) := by
  rw [Bool.eq_iff_iff]; simp
theorem q_strK {op : BinOp} {a b : ByteArray} (h : strK op a b K) (t : Nat) : qvc G (binOp op t (.string a) (.string b)) hs K := by
  cases op <;> simp only [strK] at h <;> first | exact h.elim | skip
  case eql => simp only [binOp, Op.stringOp, beq_toList]; exact yes_bool h.dec
  case neq => simp only [binOp, Op.stringOp, beq_toList]; exact not_bool h.dec
theorem q_eqBool {d t : Nat} {a b : Bool} {Kb : Bool → Prop} (hd : G.P.underlying t = some .bool) (h : Kb (a == b)) : qvc G (Op.equalIn (d + 1) t (.bool a) (.bool b)) hs Kb := by
  simp only [Op.equalIn]
  exact qvc_bind _ _ _ _ (q_underlying hd h)
theorem q_eqPtr {d t e : Nat} {a b : Option Addr} {Kb : Bool → Prop} (hd : G.P.underlying t = some (.pointer e)) (hn : a = none ∨ b = none) (h : Kb (a.isNone && b.isNone)) :
    qvc G (Op.equalIn (d + 1) t (.pointer a) (.pointer b)) hs Kb := by
  simp only [Op.equalIn]
  refine qvc_bind _ _ _ _ (q_underlying hd ?_)
  cases a with
  | none => exact h
  | some a =>
    cases b with
    | none => exact h
    | some b => rcases hn with hn | hn <;> cases hn
theorem q_eqSlice {d t e : Nat} {a : Option Addr} {n c n' c' : Nat} {Kb : Bool → Prop} (hd : G.P.underlying t = some (.slice e)) (h : Kb a.isNone) :
    qvc G (Op.equalIn (d + 1) t (.slice a n c) (.slice none n' c')) hs Kb := by
  simp only [Op.equalIn]
  refine qvc_bind _ _ _ _ (q_underlying hd ?_)
  cases a <;> exact h
theorem q_eqK {t : Nat} {op : BinOp} {x y : Value} (hT : TabOK G.P T) (h : eqK T t op x y K) : qvc G (binOp op t x y) hs K := by
  unfold eqK at h
  cases hl : look T.ts t with
  | none => rw [hl] at h; exact h.elim
  | some i =>
    rw [hl] at h
    dsimp only at h
    have hd := look_desc hT hl
    have key : ∀ {b : Bool} {d : TypeDesc}, G.P.underlying t = some d → (qvc G (Op.equal t x y) hs fun c => c = b) → (op = .eql → K (.bool b)) → (op = .neq → K (.bool (!b))) → (op = .eql ∨ op = .neq) →
        (∀ k n, x ≠ .int k n) → (∀ s, x ≠ .string s) → (∀ k n, x ≠ .float k n) → (∀ k m n, x ≠ .complex k m n) → qvc G (binOp op t x y) hs K := by
      intro b d _ he h1 h2 ho n1 n2 n3 n4
      have hq : ∀ (f : Bool → Value), K (f b) → qvc G (do pure (f (← Op.equal t x y))) hs K := by
        intro f hf
        refine qvc_bind _ _ _ _ ?_
        obtain ⟨c, hc, rfl⟩ := qvc_sound _ _ _ he
        have : ∀ (m : Sem Bool) (K' : Bool → Prop), (qvc G m hs fun c' => c' = c) → K' c → qvc G m hs K' := by
          intro m
          induction m with
          | pure a => intro K' h hk; rw [show a = c from h]; exact hk
          | load m a k ih => intro K' h hk; obtain ⟨v, hv, h⟩ := h; exact ⟨v, hv, ih v K' h hk⟩
          | shape r k ih => intro K' h hk; obtain ⟨e, he, hr, h⟩ := h; exact ⟨e, he, hr, ih _ K' h hk⟩
          | program k ih => intro K' h hk; exact ih _ K' h hk
          | mark m k ih => intro K' h hk; exact ih K' h hk
          | _ => intro K' h; exact h.elim
        exact this _ _ he hf
      rcases ho with rfl | rfl
      · have := hq .bool (h1 rfl)
        cases x <;> first | exact absurd rfl (n1 _ _) | exact absurd rfl (n2 _) | exact absurd rfl (n3 _ _) | exact absurd rfl (n4 _ _ _) | (simp only [binOp]; exact this)
      · have := hq (fun c => .bool (!c)) (h2 rfl)
        cases x <;> first | exact absurd rfl (n1 _ _) | exact absurd rfl (n2 _) | exact absurd rfl (n3 _ _) | exact absurd rfl (n4 _ _ _) | (simp only [binOp]; exact this)
    split at h
    · rename_i a b hdd
      simp only [hdd, descOk] at hd
      refine key (b := a == b) hd (q_eqBool (d := 9999) hd rfl) ?_ ?_ ?_ (by intros; simp) (by intros; simp) (by intros; simp) (by intros; simp)
      · rintro rfl; cases a <;> cases b <;> exact h
      · rintro rfl; cases a <;> cases b <;> exact h
      · cases op <;> first | exact .inl rfl | exact .inr rfl | (cases a <;> cases b <;> exact h.elim)
    · rename_i e a b hdd
      simp only [hdd, descOk] at hd
      have hn : a = none ∨ b = none := by
        cases a with
        | none => exact .inl rfl
        | some a => cases b with
          | none => exact .inr rfl
          | some b => cases op <;> exact h.elim
      refine key (b := a.isNone && b.isNone) hd (q_eqPtr (d := 9999) hd hn rfl) ?_ ?_ ?_ (by intros; simp) (by intros; simp) (by intros; simp) (by intros; simp)
      · rintro rfl; cases a <;> cases b <;> first | exact h | exact h.elim
      · rintro rfl; cases a <;> cases b <;> first | exact h | exact h.elim
      · cases op <;> first | exact .inl rfl | exact .inr rfl | (cases a <;> cases b <;> exact h.elim)
    · rename_i e a n c n' c' hdd
      simp only [hdd, descOk] at hd
      refine key (b := a.isNone) hd (q_eqSlice (d := 9999) hd rfl) ?_ ?_ ?_ (by intros; simp) (by intros; simp) (by intros; simp) (by intros; simp)
      · rintro rfl; cases a <;> exact h
      · rintro rfl; cases a <;> exact h
      · cases op <;> first | exact .inl rfl | exact .inr rfl | (cases a <;> exact h.elim)
    · exact h.elim

end Go.Proofs.Ytbccpibgjjiikaa
