/-
  Cuts, conversions, values built; and the reading operations as one law.
-/
import Derived.Test.YtbccpibgjjiikaaVr
set_option linter.unusedVariables false
set_option linter.unusedSimpArgs false
namespace Go.Proofs.Ytbccpibgjjiikaa
variable {G : Cx} {hs : Hp} {T : Tab} {env : Env} {ρ : Operand → Value} {K : Value → Prop}

theorem q_bound {x : Value} {y : Nat} {code : BoundsCode} {Kn : Nat → Prop} {k : IntKind} {i : Int} (hx : x = .int k i) (h : 0 ≤ i ∧ i ≤ (y : Int)) (hk : Kn i.toNat) :
    qvc G (Instr.sliceBound x y code) hs Kn := by
  subst hx
  show qvc G (if 0 ≤ i ∧ i ≤ (y : Int) then pure i.toNat else boundsPanic k i y code) hs Kn
  rw [if_pos h]
  exact hk
theorem boundK_some {x : Value} {d m : Nat} {Kn : Nat → Prop} (h : boundK (some x) d m Kn) : ∃ k i, x = .int k i ∧ (0 ≤ i ∧ i ≤ (m : Int)) ∧ Kn i.toNat := by
  unfold boundK at h
  split at h
  · rename_i e; cases e
  · rename_i k i e
    obtain rfl := Option.some.inj e
    obtain ⟨h1, h2⟩ := Need.out h
    exact ⟨k, i, rfl, h1, h2⟩
  · exact h.elim

theorem q_bounds {isSlice : Bool} {len cap : Nat} {lo hi mx : Option Value} {Kb : Nat × Nat × Nat → Prop}
    (h : boundK mx cap cap fun m => match hi, mx with
        | some _, _ => boundK hi len m fun h => boundK lo 0 h fun l => Kb (l, h, m)
        | none, none => boundK lo 0 len fun l => Kb (l, len, m)
        | none, some _ => False) : qvc G (Instr.sliceBounds isSlice len cap lo hi mx) hs Kb := by
  cases mx with
  | none =>
    cases hi with
    | none =>
      cases lo with
      | none => exact h
      | some v =>
        obtain ⟨k, i, hx, hi, hk⟩ := boundK_some (show boundK (some v) 0 len (fun l => Kb (l, len, cap)) from h)
        exact qvc_bind (Instr.sliceBound v len _) (fun l => pure (l, len, cap)) _ _ (q_bound hx hi hk)
    | some u =>
      obtain ⟨k, i, hx, hi, hk⟩ := boundK_some (show boundK (some u) len cap (fun h => boundK lo 0 h fun l => Kb (l, h, cap)) from h)
      refine qvc_bind (Instr.sliceBound u cap _) _ _ _ (q_bound hx hi ?_)
      cases lo with
      | none => exact hk
      | some v =>
        obtain ⟨k', i', hx', hi', hk'⟩ := boundK_some hk
        exact qvc_bind (Instr.sliceBound v i.toNat _) (fun l => pure (l, i.toNat, cap)) _ _ (q_bound hx' hi' hk')
  | some z =>
    obtain ⟨k, i, hx, hi', hk⟩ := boundK_some h
    refine qvc_bind (Instr.sliceBound z cap _) _ _ _ (q_bound hx hi' ?_)
    cases hi with
    | none => exact hk.elim
    | some u =>
      obtain ⟨k1, i1, hx1, hi1, hk1⟩ := boundK_some (show boundK (some u) len i.toNat (fun h => boundK lo 0 h fun l => Kb (l, h, i.toNat)) from hk)
      refine qvc_bind (Instr.sliceBound u i.toNat _) _ _ _ (q_bound hx1 hi1 ?_)
      cases lo with
      | none => exact hk1
      | some v =>
        obtain ⟨k', i', hx', hi', hk'⟩ := boundK_some hk1
        exact qvc_bind (Instr.sliceBound v i1.toNat _) (fun l => pure (l, i1.toNat, i.toNat)) _ _ (q_bound hx' hi' hk')

theorem boundK_mono {x : Option Value} {d m : Nat} {K1 K2 : Nat → Prop} (hk : ∀ n, K1 n → K2 n) (h : boundK x d m K1) : boundK x d m K2 := by
  unfold boundK at h ⊢
  split at h
  · exact hk _ h
  · obtain ⟨h1, h2⟩ := Need.out h; exact Need.mk h1 (hk _ h2)
  · exact h.elim

theorem q_sliceK {t : Nat} {v : Value} {lo hi mx : Option Value} (hT : TabOK G.P T) (h : sliceK T t v lo hi mx K) : qvc G (Instr.sliceAt t v lo hi mx) hs K := by
  unfold sliceK at h
  split at h
  · rename_i i hl
    have hd := look_desc hT hl
    split at h
    · rename_i e a len cap hdd
      simp only [hdd, descOk] at hd
      split at h
      · rename_i j hj
        have hj' := hT.ts e j hj
        unfold Instr.sliceAt
        refine qvc_bind _ _ _ _ (q_underlying hd ?_)
        show qvc G (Instr.slice t (.slice a len cap) lo hi mx) hs K
        unfold Instr.slice
        refine qvc_bind _ _ _ _ (q_underlying hd ?_)
        dsimp only
        refine qvc_bind _ _ _ _ (q_bounds ?_)
        refine boundK_mono (fun m hm => ?_) h
        cases hi with
        | none =>
          cases mx with
          | none => exact boundK_mono (fun l hl => qvc_bind _ _ _ _ (q_sizeOf hj' hl)) hm
          | some _ => exact hm.elim
        | some _ => exact boundK_mono (fun h hh => boundK_mono (fun l hl => qvc_bind _ _ _ _ (q_sizeOf hj' hl)) hh) hm
      · exact h.elim
    · rename_i n e a hdd
      simp only [hdd, descOk] at hd
      split at h
      · rename_i j hj
        have hj' := hT.ts e j hj
        have fin : ∀ {l h m : Nat}, cutK (some a) j.size l h m K → K (.slice (some (if m = l then a else a.add (l * j.size))) (h - l) (m - l)) := by
          intro l h m hc
          unfold cutK at hc
          split at hc <;> rename_i hml
          · rw [if_pos hml]; exact hc
          · rw [if_neg hml]; exact hc
        unfold Instr.sliceAt
        refine qvc_bind _ _ _ _ (q_underlying hd ?_)
        dsimp only
        refine qvc_bind _ _ _ _ (show qvc G (pure a : Sem Addr) hs _ from ?_)
        refine qvc_bind _ _ _ _ (q_bounds ?_)
        refine boundK_mono (fun m hm => ?_) h
        cases hi with
        | none =>
          cases mx with
          | none => exact boundK_mono (fun l hl => qvc_bind _ _ _ _ (q_sizeOf hj' (fin hl))) hm
          | some _ => exact hm.elim
        | some _ => exact boundK_mono (fun h hh => boundK_mono (fun l hl => qvc_bind _ _ _ _ (q_sizeOf hj' (fin hl))) hh) hm
      · exact h.elim
    · rename_i s hdd
      simp only [hdd, descOk] at hd
      cases mx with
      | some _ => exact h.elim
      | none =>
        unfold Instr.sliceAt
        refine qvc_bind _ _ _ _ (q_underlying hd ?_)
        show qvc G (Instr.slice t (.string s) lo hi none) hs K
        unfold Instr.slice
        refine qvc_bind _ _ _ _ (q_underlying hd ?_)
        dsimp only
        refine qvc_bind _ _ _ _ (q_bounds ?_)
        show (fun m => _) s.size
        dsimp only
        cases hi with
        | none => exact h
        | some v => exact h
    · exact h.elim
  · exact h.elim

theorem q_arrayAt {t n c len e : Nat} {i : TyI} {a : Option Addr} (hT : TabOK G.P T) (hl : look T.ts t = some i) (hd : i.d = .arr len e) (hn : len ≤ n) (h : K (.pointer a)) :
    qvc G (Instr.arrayAt t (.slice a n c)) hs K := by
  have hdd := look_desc hT hl
  simp only [hd, descOk] at hdd
  unfold Instr.arrayAt
  refine qvc_bind _ _ _ _ (q_underlying hdd ?_)
  dsimp only
  rw [if_neg (by omega)]
  exact h

theorem q_indexStr {t : Nat} {s : ByteArray} {k : IntKind} {n : Int} {q : TyI} (hT : TabOK G.P T) (hl : look T.ts t = some q) (hd : q.d = .str)
    (hb : 0 ≤ n ∧ n < (s.size : Int)) (h : K (.int .u8 (s.data.toList.getD n.toNat 0).toNat)) : qvc G (Instr.index t (.string s) (.int k n)) hs K := by
  have hdd := look_desc hT hl
  simp only [hd, descOk] at hdd
  unfold Instr.index
  refine qvc_bind _ _ _ _ (show qvc G (pure (k, n) : Sem _) hs _ from ?_)
  refine qvc_bind _ _ _ _ (q_underlying hdd ?_)
  dsimp only
  have hlt : n.toNat < s.size := by omega
  have e : s[n.toNat]? = some (s.data.toList.getD n.toNat 0) := by
    rw [getElem?_pos s n.toNat hlt]
    have h2 : n.toNat < s.data.toList.length := by simpa using hlt
    rw [List.getD_eq_getElem?_getD, List.getElem?_eq_getElem h2]
    simp only [Option.getD_some, Array.getElem_toList]
    rfl
  rw [if_pos hb.1, e]
  exact h

theorem push_all (l : List Int) (acc : ByteArray) : l.foldl (fun s (x : Int) => s.push (UInt8.ofNat x.toNat)) acc = ⟨acc.data ++ (l.map fun x => UInt8.ofNat x.toNat).toArray⟩ := by
  induction l generalizing acc with
  | nil => simp
  | cons x l ih =>
    simp only [List.foldl_cons, ih, List.map_cons]
    congr 1
    apply Array.ext'
    simp [ByteArray.push]

end Go.Proofs.Ytbccpibgjjiikaa
