/-
  Conversions, values built; and the reading operations as one law.
-/
import Derived.Test.YtbccpibgjjiikaaVt
import Derived.Laws.Sem
set_option linter.unusedVariables false
set_option linter.unusedSimpArgs false
namespace Go.Proofs.Ytbccpibgjjiikaa
variable {G : Cx} {hs : Hp} {T : Tab} {env : Env} {ρ : Operand → Value} {K : Value → Prop}

theorem q_forBytes (f : Value → ByteArray → Sem (ForInStep ByteArray)) (hf : ∀ n s, f (.int .u8 n) s = pure (.yield (s.push (UInt8.ofNat n.toNat)))) :
    ∀ (xs : List Int) (acc : ByteArray) (Ks : ByteArray → Prop), Ks (xs.foldl (fun s (x : Int) => s.push (UInt8.ofNat x.toNat)) acc) → qvc G (forIn (bytesOf xs) acc f) hs Ks
  | [], acc, Ks, h => by simp only [bytesOf, List.map_nil, List.forIn_nil]; exact h
  | x :: xs, acc, Ks, h => by
    simp only [bytesOf, List.map_cons, List.forIn_cons, hf]
    exact q_forBytes f hf xs _ Ks h
theorem q_bytesToString {a : Option Addr} {n c : Nat} {xs : List Int} (hn : xs.length = n) (hc : 0 < n → ∃ ad, a = some ad ∧ G.cellsAre hs ad (bytesOf xs)) (h : K (.string (strOf xs))) :
    qvc G (Conv.bytesToString (.slice a n c)) hs K := by
  have e : xs.foldl (fun s (x : Int) => s.push (UInt8.ofNat x.toNat)) ByteArray.empty = strOf xs := by
    rw [push_all]; unfold strOf; congr 1
    show (#[] : Array UInt8) ++ _ = _
    simp
  cases a with
  | none =>
    have h0 : n = 0 := by
      rcases Nat.eq_zero_or_pos n with h0 | h0
      · exact h0
      · obtain ⟨ad, hx, _⟩ := hc h0; cases hx
    subst h0
    obtain rfl := List.eq_nil_of_length_eq_zero hn
    exact h
  | some ad =>
    unfold Conv.bytesToString
    dsimp only
    have hcells : G.cellsAre hs ad (bytesOf xs) := by
      rcases Nat.eq_zero_or_pos n with h0 | h0
      · subst h0
        obtain rfl := List.eq_nil_of_length_eq_zero hn
        intro i v hv
        simp [bytesOf] at hv
      · obtain ⟨ad', hx, hh⟩ := hc h0; cases hx; exact hh
    refine qvc_bind _ _ _ _ (q_loadCells (vs := bytesOf xs) (by simp [bytesOf, hn]) hcells ?_)
    simp only [List.forIn_toArray]
    refine qvc_bind _ _ _ _ (q_forBytes _ (fun n s => rfl) xs ByteArray.empty _ ?_)
    rw [e]
    exact h

theorem q_convK {s d : Nat} {v : Value} (hT : TabOK G.P T) (h : convK G T hs s d v K) : qvc G (convert s d v) hs K := by
  unfold convK at h
  split at h
  · rename_i i j hi hj
    have hdi := look_desc hT hi
    have hdj := look_desc hT hj
    split at h
    · rename_i k k' n hd1 hd2
      simp only [hd1, hd2, descOk] at hdi hdj
      unfold convert
      refine qvc_bind _ _ _ _ (q_underlying hdi ?_)
      refine qvc_bind _ _ _ _ (q_underlying hdj ?_)
      exact q_wrap h
    · rename_i x hd1 hd2
      simp only [hd1, hd2, descOk] at hdi hdj
      unfold convert
      refine qvc_bind _ _ _ _ (q_underlying hdi ?_)
      refine qvc_bind _ _ _ _ (q_underlying hdj ?_)
      exact h
    · rename_i e a n c hd1 hd2
      simp only [hd1, hd2, descOk] at hdi hdj
      split at h
      · rename_i q hq
        split at h
        · rename_i hqd
          obtain ⟨xs, ⟨h1, h2⟩, h3⟩ := h.out
          have hdq := look_desc hT hq
          simp only [hqd, descOk] at hdq
          unfold convert
          refine qvc_bind _ _ _ _ (q_underlying hdi ?_)
          refine qvc_bind _ _ _ _ (q_underlying hdj ?_)
          dsimp only
          refine qvc_bind _ _ _ _ (q_underlying hdq ?_)
          exact q_bytesToString h1 h2 h3
        · exact h.elim
      · exact h.elim
    · exact h.elim
  · exact h.elim

/-! Values laid into a value -/
def layL : List Value → List Value → Nat → List Value
  | [], cells, _ => cells
  | v :: vs, cells, n => layL vs (cells.set n v) (n + 1)
theorem foldl_set (vs : List Value) : ∀ (off : Nat) (cells : List Value) (j0 : Nat),
    (vs.zipIdx j0).foldl (fun (cs : Array Value) (p : Value × Nat) => cs.setIfInBounds (off + p.2) p.1) cells.toArray = (layL vs cells (off + j0)).toArray := by
  induction vs with
  | nil => intro off cells j0; simp [layL]
  | cons v vs ih =>
    intro off cells j0
    simp only [List.zipIdx_cons, List.foldl_cons, List.setIfInBounds_toArray, layL]
    rw [ih off (cells.set (off + j0) v) (j0 + 1)]
    rw [show off + (j0 + 1) = off + j0 + 1 by omega]
theorem layK_out : ∀ (vs l : List Value) (n : Nat) (Kl : List Value → Prop), layK Kl l vs n → Kl (layL vs l n)
  | [], _, _, _, h => h
  | v :: vs, l, n, Kl, h => layK_out vs _ _ _ (setK_out l n _ h)
theorem cells_eq (v : Value) : v.cells.toList = cellsL v := by cases v <;> simp [Value.cells, cellsL]

theorem fill_out (place : Nat → Option (Nat × Nat)) (placeK : Nat → (Nat → Nat → Prop) → Prop) (hp : ∀ i k, placeK i k → ∃ off size, place i = some (off, size) ∧ k off size) :
    ∀ (parts : List (Nat × Value)) (l : List Value) (Kl : List Value → Prop), partsK placeK Kl l parts → ∃ l', Instr.fill place l.toArray parts = some l'.toArray ∧ Kl l'
  | [], l, Kl, h => ⟨l, rfl, h⟩
  | (i, v) :: r, l, Kl, h => by
    obtain ⟨off, size, hi, h⟩ := hp _ _ h
    obtain ⟨⟨h1, h2⟩, h⟩ := Need.out h
    have h3 := layK_out _ _ _ _ h
    obtain ⟨l', h4, h5⟩ := fill_out place placeK hp r _ Kl h3
    refine ⟨l', ?_, h5⟩
    have hsz : v.cells.size = size := by rw [← h1, ← cells_eq]; simp
    have hz : Array.foldl (fun (cs : Array Value) (p : Value × Nat) => cs.setIfInBounds (off + p.2) p.1) l.toArray v.cells.zipIdx = (layL (cellsL v) l off).toArray := by
      have := foldl_set (cellsL v) off l 0
      rw [Nat.add_zero] at this
      rw [← this, ← cells_eq, ← Array.foldl_toList]
      rw [Array.toList_zipIdx]
    unfold Instr.fill
    rw [hi]
    dsimp only
    rw [if_neg (by simp; omega)]
    rw [hz]
    exact h4

theorem q_mapM (f : Field → Sem (Nat × Nat)) (g : Field → Nat × Nat) : ∀ (l : List Field) (Kl : List (Nat × Nat) → Prop),
    (∀ x ∈ l, ∀ Kx : Nat × Nat → Prop, Kx (g x) → qvc G (f x) hs Kx) → Kl (l.map g) → qvc G (l.mapM f) hs Kl
  | [], Kl, _, h => by simp only [List.mapM_nil]; exact h
  | x :: l, Kl, hf, h => by
    simp only [List.mapM_cons]
    refine qvc_bind _ _ _ _ (hf x (List.mem_cons_self ..) _ ?_)
    refine qvc_bind _ _ _ _ (q_mapM f g l _ (fun y hy => hf y (List.mem_cons_of_mem _ hy)) ?_)
    exact h
theorem q_build {t : Nat} {parts : Array (Nat × Value)} (hT : TabOK G.P T) (h : buildK T t parts.toList K) : qvc G (Instr.build t parts) hs K := by
  unfold buildK at h
  split at h
  · rename_i i hl
    have hi := hT.ts t i hl
    have hd := hi.desc
    have hz : (zeroOf i).cells = i.zero.toArray ∨ i.agg = false := by
      unfold zeroOf
      cases ha : i.agg with
      | true => left; simp [Value.cells]
      | false => right; rfl
    split at h
    · rename_i fs hdd
      have hagg : i.agg = true := by rw [hi.agg, hdd]; rfl
      simp only [hdd, descOk] at hd
      obtain ⟨a, hu, hm, hall⟩ := hd
      have hzz : (zeroOf i).cells = i.zero.toArray := by rcases hz with h' | h'; exact h'; rw [hagg] at h'; cases h'
      unfold Instr.build
      refine qvc_bind _ _ _ _ (q_zeroValue hi ?_)
      refine qvc_bind _ _ _ _ (q_underlying hu ?_)
      dsimp only
      let g : Field → Nat × Nat := fun f => (f.offset, ((G.P.info? f.type).map (·.size)).getD 0)
      have hmap : qvc G (a.mapM fun f => do pure (f.offset, ← sizeOf f.type)) hs (fun places => places = (a.toList.map g).toArray) := by
        rw [Array.mapM_eq_mapM_toList]
        rw [map_eq_pure_bind]
        refine qvc_bind _ _ _ _ (q_mapM _ g a.toList _ (fun x hx Kx hk => ?_) ?_)
        · have hs1 := List.all_eq_true.1 hall x hx
          obtain ⟨ti, hti⟩ := Option.isSome_iff_exists.1 hs1
          refine qvc_bind _ _ _ _ (qvc_bind _ _ _ _ (q_typeInfo hti ?_))
          have : g x = (x.offset, ti.size) := by simp [g, hti]
          rw [this] at hk
          exact hk
        · exact rfl
      have fin : ∀ (m : Sem (Array (Nat × Nat))) (f : Array (Nat × Nat) → Sem Value) (p : Array (Nat × Nat)), qvc G m hs (fun x => x = p) → qvc G (f p) hs K → qvc G (m.bind f) hs K := by
        intro m f p h1 h2
        refine qvc_bind _ _ _ _ ?_
        revert h1
        induction m with
        | pure a => intro h; rw [show a = p from h]; exact h2
        | load m a k ih => rintro ⟨v, hv, h⟩; exact ⟨v, hv, ih v h⟩
        | shape r k ih => rintro ⟨e, he, hr, h⟩; exact ⟨e, he, hr, ih _ h⟩
        | program k ih => intro h; exact ih _ h
        | mark m k ih => intro h; exact ih h
        | _ => intro h; exact h.elim
      refine fin _ _ _ hmap ?_
      have hp : ∀ (n : Nat) (k : Nat → Nat → Prop), (match nth fs n with
          | some (off, ft) => match look T.ts ft with
            | some j => k off j.size
            | none => False
          | none => False) → ∃ off size, ((a.toList.map g).toArray)[n]? = some (off, size) ∧ k off size := by
        intro n k hk
        cases hn : nth fs n with
        | none => rw [hn] at hk; exact hk.elim
        | some p =>
          obtain ⟨off, ft⟩ := p
          rw [hn] at hk
          dsimp only at hk
          cases hj : look T.ts ft with
          | none => rw [hj] at hk; exact hk.elim
          | some j =>
            rw [hj] at hk
            obtain ⟨x, hx, ho, ht⟩ := field_of hm hn
            refine ⟨off, j.size, ?_, hk⟩
            obtain ⟨ti, hti, hsz, _⟩ := (hT.ts ft j hj).look
            have hx' : a.toList[n]? = some x := by rw [Array.getElem?_toList]; exact hx
            rw [List.getElem?_toArray, List.getElem?_map, hx']
            simp only [Option.map_some, g, ho, ht, hti, Option.getD_some, hsz]
      obtain ⟨l', h1, h2⟩ := fill_out (fun n => ((a.toList.map g).toArray)[n]?) _ hp _ _ _ h
      rw [hzz, h1]
      exact h2
    · rename_i n e hdd
      have hagg : i.agg = true := by rw [hi.agg, hdd]; rfl
      simp only [hdd, descOk] at hd
      have hzz : (zeroOf i).cells = i.zero.toArray := by rcases hz with h' | h'; exact h'; rw [hagg] at h'; cases h'
      split at h
      · rename_i j hj
        unfold Instr.build
        refine qvc_bind _ _ _ _ (q_zeroValue hi ?_)
        refine qvc_bind _ _ _ _ (q_underlying hd ?_)
        dsimp only
        refine qvc_bind _ _ _ _ (q_sizeOf (hT.ts e j hj) ?_)
        obtain ⟨l', h1, h2⟩ := fill_out (fun i => some (i * j.size, j.size)) _ (fun i k hk => ⟨_, _, rfl, hk⟩) _ _ _ h
        rw [hzz, h1]
        exact h2
      · exact h.elim
    · exact h.elim
  · exact h.elim

end Go.Proofs.Ytbccpibgjjiikaa
