/-
  Bytes and words as cells; rows that a call makes.
-/
import Derived.Test.YtbccpibgjjiikaaWl
import Derived.Test.YtbccpibgjjiikaaSp
set_option linter.unusedVariables false
set_option linter.unusedSimpArgs false
namespace Go.Proofs.Ytbccpibgjjiikaa
open Go

abbrev w32 (x : W32) : Value := .int .u32 (x.toNat : Int)
abbrev b8 (x : B8) : Value := .int .u8 (x.toNat : Int)
abbrev w64 (x : BitVec 64) : Value := .int .u64 (x.toNat : Int)
section cells
variable {G : Cx} {hs : Hp}
theorem cell_arg {a : Addr} {l : List B8} {k : Nat} (h : At G.w0 (some a) (l.map b8)) (hd : a.block ∉ G.fp) (hk : k < l.length) : G.cellIs hs (a.add (k * 1)) (b8 (l.getD k 0)) := by
  rw [Nat.mul_one]
  refine cell_of_at rfl h hd ?_
  rw [List.getElem?_map, List.getElem?_eq_getElem hk, List.getD_eq_getElem?_getD, List.getElem?_eq_getElem hk]
  rfl
theorem word_arg {a : Addr} {l : List W32} {k : Nat} (h : At G.w0 (some a) (l.map w32)) (hd : a.block ∉ G.fp) (hk : k < l.length) : G.cellIs hs (a.add (k * 1)) (w32 (l.getD k 0)) := by
  rw [Nat.mul_one]
  refine cell_of_at rfl h hd ?_
  rw [List.getElem?_map, List.getElem?_eq_getElem hk, List.getD_eq_getElem?_getD, List.getElem?_eq_getElem hk]
  rfl
theorem cell_w {b k : Nat} {l : List W32} {t : TypeId} {fr : Nat × Nat} (hm : (⟨b, l.map w32, t, fr⟩ : Ent) ∈ hs) (hk : k < l.length) : G.cellIs hs (Addr.add ⟨b, 0, none⟩ (k * 1)) (w32 (l.getD k 0)) := by
  rw [Nat.mul_one, add_plain, Nat.zero_add]
  refine cellIs_at hm ?_
  rw [List.getElem?_map, List.getElem?_eq_getElem hk, List.getD_eq_getElem?_getD, List.getElem?_eq_getElem hk]
  rfl
theorem cell_b {b k : Nat} {l : List B8} {t : TypeId} {fr : Nat × Nat} (hm : (⟨b, l.map b8, t, fr⟩ : Ent) ∈ hs) (hk : k < l.length) : G.cellIs hs (Addr.add ⟨b, 0, none⟩ (k * 1)) (b8 (l.getD k 0)) := by
  rw [Nat.mul_one, add_plain, Nat.zero_add]
  refine cellIs_at hm ?_
  rw [List.getElem?_map, List.getElem?_eq_getElem hk, List.getD_eq_getElem?_getD, List.getElem?_eq_getElem hk]
  rfl
theorem store_el {b k : Nat} {cs : List Value} {v : Value} {t : TypeId} {fr : Nat × Nat} {hs' : Hp} {K : Hp → Prop} (hu : Upd ⟨b, cs, t, fr⟩ ⟨b, cs.set k v, t, fr⟩ hs hs') (hfr : Soft fr cs.length) (h1 : one v = true) (hk : k < cs.length) (h : K hs') :
    StoreVC G hs (Addr.add ⟨b, 0, none⟩ (k * 1)) [v] K := by
  rw [Nat.mul_one, add_plain, Nat.zero_add]
  exact StoreVC.at_ hu hfr (by simp [h1]) (by show k + 1 ≤ cs.length; omega) h
theorem cell_wr {b k : Nat} {l : List W32} {r : List Value} {t : TypeId} {fr : Nat × Nat} (hm : (⟨b, l.map w32 ++ r, t, fr⟩ : Ent) ∈ hs) (hk : k < l.length) : G.cellIs hs (Addr.add ⟨b, 0, none⟩ (k * 1)) (w32 (l.getD k 0)) := by
  rw [Nat.mul_one, add_plain, Nat.zero_add]
  refine cellIs_at hm ?_
  rw [List.getElem?_append_left (by simpa using hk), List.getElem?_map, List.getElem?_eq_getElem hk, List.getD_eq_getElem?_getD, List.getElem?_eq_getElem hk]
  rfl
theorem cell_br {b k : Nat} {l : List B8} {r : List Value} {t : TypeId} {fr : Nat × Nat} (hm : (⟨b, l.map b8 ++ r, t, fr⟩ : Ent) ∈ hs) (hk : k < l.length) : G.cellIs hs (Addr.add ⟨b, 0, none⟩ (k * 1)) (b8 (l.getD k 0)) := by
  rw [Nat.mul_one, add_plain, Nat.zero_add]
  refine cellIs_at hm ?_
  rw [List.getElem?_append_left (by simpa using hk), List.getElem?_map, List.getElem?_eq_getElem hk, List.getD_eq_getElem?_getD, List.getElem?_eq_getElem hk]
  rfl
theorem store_all {b : Nat} {cs vs : List Value} {t : TypeId} {fr : Nat × Nat} {hs' : Hp} {K : Hp → Prop} (hu : Upd ⟨b, cs, t, fr⟩ ⟨b, vs, t, fr⟩ hs hs') (hfr : Soft fr cs.length) (h1 : vs.all one = true) (hk : vs.length = cs.length) (h : K hs') :
    StoreVC G hs ⟨b, 0, none⟩ vs K := by
  have e : layL vs cs 0 = vs := by rw [layL_eq _ _ _ (by omega)]; simp [hk]
  exact StoreVC.at_ (by rw [e]; exact hu) hfr h1 (by omega) h
end cells
theorem map_set {α : Type} (f : α → Value) (l : List α) (i : Nat) (x : α) : (l.map f).set i (f x) = (l.set i x).map f := by rw [List.map_set]
theorem ones_w (l : List W32) : (l.map w32).all one = true := by simp [one]
theorem ones_b (l : List B8) : (l.map b8).all one = true := by simp [one]
theorem conv8_32 (a : B8) : ((a.setWidth 32).toNat : Int) = IntKind.u32.wrap (a.toNat : Int) := by
  rw [BitVec.toNat_setWidth, Nat.mod_eq_of_lt (by have := a.isLt; omega)]
  exact fit_u32 (by omega) (by have := a.isLt; omega)
theorem conv8_64 (a : B8) : ((a.setWidth 64).toNat : Int) = IntKind.u64.wrap (a.toNat : Int) := by
  rw [BitVec.toNat_setWidth, Nat.mod_eq_of_lt (by have := a.isLt; omega)]
  exact fit_u64 (by omega) (by have := a.isLt; omega)
theorem conv32_64 (a : W32) : ((a.setWidth 64).toNat : Int) = IntKind.u64.wrap (a.toNat : Int) := by
  rw [BitVec.toNat_setWidth, Nat.mod_eq_of_lt (by have := a.isLt; omega)]
  exact fit_u64 (by omega) (by have := a.isLt; omega)
theorem conv32_8 (a : W32) : ((a.setWidth 8).toNat : Int) = IntKind.u8.wrap (a.toNat : Int) := by
  rw [BitVec.toNat_setWidth]
  simp [IntKind.wrap, IntKind.signed, IntKind.bits]
theorem conv64_8 (a : BitVec 64) : ((a.setWidth 8).toNat : Int) = IntKind.u8.wrap (a.toNat : Int) := by
  rw [BitVec.toNat_setWidth]
  simp [IntKind.wrap, IntKind.signed, IntKind.bits]
theorem conv64_32 (a : BitVec 64) : ((a.setWidth 32).toNat : Int) = IntKind.u32.wrap (a.toNat : Int) := by
  rw [BitVec.toNat_setWidth]
  simp [IntKind.wrap, IntKind.signed, IntKind.bits]

/-! ### Rows that a call makes -/
section made
variable {G : Cx} {T : Tab} {hs : Hp}
/-- A row of the call's own: its block, and what else may be new. -/
structure Gives (e : Nat) (xs : List Value) (v : Value) (hs : Hp) : Prop where wrap ::
  raw : ∃ (b : Nat) (r : List Value) (fr : Nat × Nat), v = .slice (some ⟨b, 0, none⟩) xs.length (xs ++ r).length ∧ (⟨b, xs ++ r, e, fr⟩ : Ent) ∈ hs ∧ Soft fr (xs ++ r).length
theorem Gives.mk {e b : Nat} {xs r : List Value} {n c : Nat} {fr : Nat × Nat} (hm : (⟨b, xs ++ r, e, fr⟩ : Ent) ∈ hs) (hn : n = xs.length) (hc : c = (xs ++ r).length) (hf : Soft fr (xs ++ r).length) : Gives e xs (.slice (some ⟨b, 0, none⟩) n c) hs :=
  ⟨b, r, fr, by rw [hn, hc], hm, hf⟩
theorem Gives.all {e b : Nat} {cs xs : List Value} {n c : Nat} (hm : (⟨b, cs, e, (0, 0)⟩ : Ent) ∈ hs) (hx : cs = xs) (hn : n = xs.length) (hc : c = xs.length) : Gives e xs (.slice (some ⟨b, 0, none⟩) n c) hs :=
  ⟨b, [], (0, 0), by rw [hn, hc]; simp, by rw [← hx]; simpa using hm, soft0⟩
theorem CallVC.ofW {f : Nat} {args : List Value} {K R : Value → Hp → Prop} (hc : ∀ w, St G hs w → Ret G.P f args w R) (hk : ∀ v hs2, R v hs2 → ∃ hs3, hs3.Sublist hs2 ∧ K v (hs3 ++ hs)) : CallVC G hs f args K := by
  refine ⟨K, fun w hw => (hc w hw).calls.mono ?_, fun _ _ h => h⟩
  rintro e w' ⟨v, hs2, rfl, hr, hst⟩
  obtain ⟨hs3, h1, h2⟩ := hk v hs2 hr
  exact ⟨v, hs3 ++ hs, rfl, h2, (hw.trans hst).sub (h1.append_right hs)⟩
theorem CallVC.gives {f e : Nat} {args : List Value} {K : Value → Hp → Prop} {xs : List Value} (hc : ∀ w, St G hs w → Ret G.P f args w fun v hs2 => Gives e xs v hs2)
    (hk : ∀ b r fr, Soft fr (xs ++ r).length → K (.slice (some ⟨b, 0, none⟩) xs.length (xs ++ r).length) (⟨b, xs ++ r, e, fr⟩ :: hs)) : CallVC G hs f args K :=
  CallVC.ofW hc fun v hs2 ⟨b, r, fr, hv, hm, hf⟩ => ⟨[⟨b, xs ++ r, e, fr⟩], List.singleton_sublist.2 hm, by subst hv; exact hk b r fr hf⟩
/-- The same beside a number. -/
def GivesE (e : Nat) (xs : List Value) (c : Value) (v : Value) (hs : Hp) : Prop := ∃ u, v = .tuple #[u, c] ∧ Gives e xs u hs
theorem CallVC.givesE {f e : Nat} {args : List Value} {K : Value → Hp → Prop} {xs : List Value} {c : Value} (hc : ∀ w, St G hs w → Ret G.P f args w fun v hs2 => GivesE e xs c v hs2)
    (hk : ∀ b r fr, Soft fr (xs ++ r).length → K (.tuple #[.slice (some ⟨b, 0, none⟩) xs.length (xs ++ r).length, c]) (⟨b, xs ++ r, e, fr⟩ :: hs)) : CallVC G hs f args K :=
  CallVC.ofW hc fun v hs2 ⟨u, hv, b, r, fr, hu, hm, hf⟩ => ⟨[⟨b, xs ++ r, e, fr⟩], List.singleton_sublist.2 hm, by subst hv hu; exact hk b r fr hf⟩
/-- Onto a row of the call's own, whose cells are the row's and some more. -/
theorem AppendVC.on {t tx e n m b cap : Nat} {j : TyI} {x : Value} {xs r ys : List Value} {fr : Nat × Nat} {rest : Hp} {K : Value → Hp → Prop} (hT : TabOK G.P T) (ht : ApT T t tx e j) (h1 : j.size = 1)
    (hm : Take ⟨b, xs ++ r, e, fr⟩ hs rest) (hfr : Soft fr (xs ++ r).length) (hcap : (xs ++ r).length = cap) (hn : xs.length = n) (hx : Holds G hs 1 x m ys) (hone : ys.all one = true)
    (room : (2 * (n + m) + 192) * j.bytes ≤ 281474976710656)
    (h : ∀ b' r' fr', Soft fr' (xs ++ ys ++ r').length → K (.slice (some ⟨b', 0, none⟩) (n + m) (xs ++ ys ++ r').length) (⟨b', xs ++ ys ++ r', e, fr'⟩ :: rest)) :
    AppendVC G hs t tx (.slice (some ⟨b, 0, none⟩) n cap) x K := by
  have hxl := hx.len
  refine AppendVC.own hT ht hm hfr (by rw [h1]; omega) (by rw [← hcap, ← hn]; simp) (by rw [h1]; exact hx) hone room ?_
  intro b' cs' cap' fr' g1 g2 g3 g4
  rw [h1, Nat.mul_one] at g1 g4
  rw [Nat.mul_one, ← hn, List.take_left] at g4
  obtain ⟨r', rfl⟩ : ∃ r', cs' = xs ++ ys ++ r' := ⟨cs'.drop (n + m), by rw [← g4, hn, List.take_append_drop]⟩
  rw [← g1]
  exact h b' r' fr' g3
theorem AppendVC.bytes {t tx e n m b cap : Nat} {j : TyI} {x : Value} {xs ys : List B8} {r : List Value} {fr : Nat × Nat} {rest : Hp} {K : Value → Hp → Prop} (hT : TabOK G.P T) (ht : ApT T t tx e j) (h1 : j.size = 1)
    (hm : Take ⟨b, xs.map b8 ++ r, e, fr⟩ hs rest) (hfr : Soft fr (xs.map b8 ++ r).length) (hcap : (xs.map b8 ++ r).length = cap) (hn : xs.length = n) (hx : Holds G hs 1 x m (ys.map b8))
    (room : (2 * (n + m) + 192) * j.bytes ≤ 281474976710656)
    (h : ∀ b' r' fr', Soft fr' ((xs ++ ys).map b8 ++ r').length → K (.slice (some ⟨b', 0, none⟩) (n + m) ((xs ++ ys).map b8 ++ r').length) (⟨b', (xs ++ ys).map b8 ++ r', e, fr'⟩ :: rest)) :
    AppendVC G hs t tx (.slice (some ⟨b, 0, none⟩) n cap) x K := by
  refine AppendVC.on hT ht h1 hm hfr hcap (by simpa using hn) hx (ones_b _) room ?_
  intro b' r' fr' hf
  have e : xs.map b8 ++ ys.map b8 = (xs ++ ys).map b8 := by rw [List.map_append]
  rw [e] at hf ⊢
  exact h b' r' fr' hf
/-- copy onto a row of the call's own. -/
theorem CopyVC.bytes {t tx e n m b c : Nat} {i j : TyI} {x : Value} {ys : List B8} {cs : List Value} {fr : Nat × Nat} {hs' : Hp} {K : Value → Hp → Prop} (hT : TabOK G.P T) (hi : look T.ts t = some i) (hd : i.d = .slice e) (hj : look T.ts e = some j) (h1 : j.size = 1)
    (hx : Holds G hs 1 x m (ys.map b8)) (hu : Upd ⟨b, cs, e, fr⟩ ⟨b, ys.map b8 ++ cs.drop m, e, fr⟩ hs hs') (hm : m ≤ n) (hn : n ≤ cs.length) (hf : Soft fr cs.length) (h : K (.int .i64 m) hs') :
    CopyVC G hs t tx (.slice (some ⟨b, 0, none⟩) n c) x K := by
  have hxl : ys.length = m := by have := hx.len; simpa using this
  refine CopyVC.all hT hi hd hj (by rw [h1]; exact hx) hm (fun a ha => ?_) (fun h => by cases h)
  obtain rfl := Option.some.inj ha
  have e : layL (ys.map b8) cs 0 = ys.map b8 ++ cs.drop m := by rw [layL_eq _ _ _ (by simp; omega)]; simp [hxl]
  exact StoreVC.at_ (by rw [e]; exact hu) hf (ones_b _) (by simp; omega) h
/-- A callee that changes what it is handed, and hands back a row. -/
theorem CallVC.mutG {f e : Nat} {args : List Value} {K : Value → Hp → Prop} {xs : List Value} (pre rest : Hp) (hp : hs.Perm (pre ++ rest))
    (hc : ∀ w, St G hs w → St ⟨G.P, w, ids pre⟩ pre w → Mut G.P f args w pre fun v hs2 => Gives e xs v hs2)
    (hk : ∀ b r fr, Soft fr (xs ++ r).length → K (.slice (some ⟨b, 0, none⟩) xs.length (xs ++ r).length) (⟨b, xs ++ r, e, fr⟩ :: rest)) : CallVC G hs f args K := by
  refine ⟨K, fun w hw => (hc w hw (hw.only hp)).calls.mono ?_, fun _ _ h => h⟩
  rintro e' w' ⟨v, hs2, rfl, ⟨b, r, fr, hv, hm, hf⟩, hst⟩
  subst hv
  exact ⟨_, ⟨b, xs ++ r, e, fr⟩ :: rest, rfl, hk b r fr hf, (hw.transM hp hst).sub ((List.singleton_sublist.2 hm).append_right rest)⟩
end made
end Go.Proofs.Ytbccpibgjjiikaa
