/-
  Frames: all of a frame but its tag; a frame's bytes; the document; every input.
-/
import Derived.Test.YtnlheljpagpiiaaGreatMj
set_option linter.unusedVariables false
set_option linter.unusedSimpArgs false
set_option maxRecDepth 100000
set_option maxHeartbeats 8000000
namespace Go.Proofs.YtnlheljpagpiiaaGreat
open Go
attribute [local irreducible] bitsOf shlOf shrOf pack numBits bytesBits coreBits crcSum
/-- The document's bits, and its writer. -/
abbrev eDB (b : Nat) (bs : List Bool) (r : List Value) (fr : Nat × Nat) : Ent := ⟨b, boolsV bs ++ r, 4, fr⟩
abbrev eD (dp b : Nat) (bs : List Bool) (r : List Value) : Ent := dE dp (some ⟨b, 0, none⟩) (boolsV bs).length (boolsV bs ++ r).length
theorem ownV_isRow {t : TypeId} {A : Option Addr} {bs : List Bool} {C : Nat} {E : Hp} (h : OwnV t A (boolsV bs) C E) (h0 : bs ≠ []) : ∃ b r fr, Soft fr (boolsV bs ++ r).length ∧ A = some ⟨b, 0, none⟩ ∧ C = (boolsV bs ++ r).length ∧ E = [⟨b, boolsV bs ++ r, t, fr⟩] := by
  have hl : (boolsV bs).length = bs.length := List.length_map ..
  generalize boolsV bs = l at *
  cases h with
  | none =>
    exfalso
    apply h0
    apply List.eq_nil_of_length_eq_zero
    rw [List.length_nil] at hl
    omega
  | row b _ r fr hf => exact ⟨b, r, fr, hf, rfl, rfl, rfl⟩
theorem iBits_ne {x : Int} {w : Nat} (h : 0 < w) : iBits x w ≠ [] := fun e => by
  have := congrArg List.length e
  rw [iBits_len] at this
  rw [List.length_nil] at this
  omega
section
variable {G : Cx} {hs : Hp}
theorem CallVC.dput0 {K : Value → Hp → Prop} {dp : Nat} {r1 : Hp} (x : Int) (wd : Nat) (hP : G.P = Tryz.prog) (h1 : Take (dE dp none 0 0) hs r1) (hx : fitsIn (x, wd)) (hw0 : 0 < wd)
    (hk : ∀ b r fr, Soft fr (boolsV (iBits x wd) ++ r).length → K (.int .i64 0) (eDB b (iBits x wd) r fr :: eD dp b (iBits x wd) r :: r1)) : CallVC G hs 112 [.pointer (some ⟨dp, 0, none⟩), .int .u64 x, .int .i64 wd] K := by
  obtain ⟨q1, q2, q3⟩ := hx
  dsimp only at q1 q2 q3
  have hpm : hs.Perm (dobj dp none 0 [] (boolsV []) ++ r1) := h1.perm
  have hxe := ofInt_nat q2 (fits_lt q1 q3)
  rw [show Value.int .u64 x = w64 (BitVec.ofInt 64 x) by unfold w64; rw [hxe]]
  refine CallVC.mutT (dobj dp none 0 [] (boolsV [])) r1 hpm (fun w2 h2 h3 => hP ▸ dput_m dp none 0 [] [] (BitVec.ofInt 64 x) wd q1 (fun _ => shr_ofInt q1 q2 q3) (by show 0 + wd ≤ 8192; omega) OwnV.none w2 (hP ▸ h3)) ?_
  rintro v H ⟨A', C', E', rfl, hO, rfl⟩
  rw [List.nil_append] at hO ⊢
  obtain ⟨b, r, fr, hf, rfl, rfl, rfl⟩ := ownV_isRow hO (iBits_ne hw0)
  exact hk b r fr hf
theorem CallVC.dputW {K : Value → Hp → Prop} {dp b : Nat} {r : List Value} {fr : Nat × Nat} {r1 r2 : Hp} (bs : List Bool) (x : Int) (wd : Nat) (hP : G.P = Tryz.prog) (h1 : Take (eDB b bs r fr) hs r1) (h2 : Take (eD dp b bs r) r1 r2) (hf : Soft fr (boolsV bs ++ r).length) (hx : fitsIn (x, wd)) (h0 : bs ≠ []) (htot : bs.length + wd ≤ 8192)
    (hk : ∀ b r fr, Soft fr (boolsV (bs ++ iBits x wd) ++ r).length → K (.int .i64 0) (eDB b (bs ++ iBits x wd) r fr :: eD dp b (bs ++ iBits x wd) r :: r2)) : CallVC G hs 112 [.pointer (some ⟨dp, 0, none⟩), .int .u64 x, .int .i64 wd] K := by
  obtain ⟨q1, q2, q3⟩ := hx
  dsimp only at q1 q2 q3
  have hpm : hs.Perm (dobj dp (some ⟨b, 0, none⟩) (boolsV bs ++ r).length [eDB b bs r fr] (boolsV bs) ++ r2) := h1.perm.trans (List.Perm.cons _ h2.perm)
  have hxe := ofInt_nat q2 (fits_lt q1 q3)
  rw [show Value.int .u64 x = w64 (BitVec.ofInt 64 x) by unfold w64; rw [hxe]]
  refine CallVC.mutT (dobj dp (some ⟨b, 0, none⟩) (boolsV bs ++ r).length [eDB b bs r fr] (boolsV bs)) r2 hpm (fun w2 h2 h3 => hP ▸ dput_m dp _ _ [eDB b bs r fr] bs (BitVec.ofInt 64 x) wd q1 (fun _ => shr_ofInt q1 q2 q3) htot (OwnV.row b _ r fr hf) w2 (hP ▸ h3)) ?_
  rintro v H ⟨A', C', E', rfl, hO, rfl⟩
  obtain ⟨b, r, fr, hf, rfl, rfl, rfl⟩ := ownV_isRow hO (ne_app h0)
  exact hk b r fr hf
theorem CallVC.dbytesW {K : Value → Hp → Prop} {dp b : Nat} {r : List Value} {fr : Nat × Nat} {B : Option Addr} {cb : Nat} {r1 r2 : Hp} (bs : List Bool) (l : List B8) (hP : G.P = Tryz.prog) (h1 : Take (eDB b bs r fr) hs r1) (h2 : Take (eD dp b bs r) r1 r2) (hf : Soft fr (boolsV bs ++ r).length) (hl : l.length ≤ 1024) (h0 : bs ≠ []) (htot : bs.length + 8 * l.length ≤ 8192) (hB : At G.w0 B (l.map b8)) (hd : l ≠ [] → ∀ a, B = some a → a.block ∉ G.fp)
    (hk : ∀ b r fr, Soft fr (boolsV (bs ++ bytesBits l) ++ r).length → K (.int .i64 0) (eDB b (bs ++ bytesBits l) r fr :: eD dp b (bs ++ bytesBits l) r :: r2)) : CallVC G hs 80 [.pointer (some ⟨dp, 0, none⟩), .slice B l.length cb] K := by
  have hpm : hs.Perm (dobj dp (some ⟨b, 0, none⟩) (boolsV bs ++ r).length [eDB b bs r fr] (boolsV bs) ++ r2) := h1.perm.trans (List.Perm.cons _ h2.perm)
  have hB2 : ∀ w, St G hs w → At w B (l.map b8) := fun w hw => by
    by_cases hx : l = []
    · subst hx; exact At.nil
    · exact hB.here hw (hd hx)
  refine CallVC.mutT (dobj dp (some ⟨b, 0, none⟩) (boolsV bs ++ r).length [eDB b bs r fr] (boolsV bs)) r2 hpm (fun w2 h2 h3 => hP ▸ dbytes_m dp _ _ [eDB b bs r fr] bs B l cb hl htot (OwnV.row b _ r fr hf) w2 (hB2 w2 h2) (fun hx a ha => (ha ▸ hB).news (by simpa using hx) (hd hx a ha) h2 hpm) (hP ▸ h3)) ?_
  rintro v H ⟨A', C', E', rfl, hO, rfl⟩
  obtain ⟨b, r, fr, hf, rfl, rfl, rfl⟩ := ownV_isRow hO (ne_app h0)
  exact hk b r fr hf
end
theorem dkey_m (f : Fr) (hi : 0 ≤ f.index ∧ f.index ≤ 256) (hk : f.key.l.length ≤ 16) (dp b : Nat) (bs : List Bool) (r : List Value) (fr : Nat × Nat) (hbs : bs ≠ []) (hb : bs.length ≤ 1000) (hf : Soft fr (boolsV bs ++ r).length) (w : World) (hK : At w f.key.a (f.key.l.map b8)) (hd : f.key.l ≠ [] → ∀ a, f.key.a = some a → a.block ∉ [b, dp])
    (hw : St ⟨Tryz.prog, w, [b, dp]⟩ [eDB b bs r fr, eD dp b bs r] w) :
    Mut Tryz.prog 113 [.pointer (some ⟨dp, 0, none⟩), f.v] w [eDB b bs r fr, eD dp b bs r] fun v hs2 => ∃ H, List.Sublist H hs2 ∧ ∃ b' r' fr', Soft fr' (boolsV (bs ++ iBits f.index 16 ++ bytesBits f.key.l) ++ r').length ∧ H = [eDB b' (bs ++ iBits f.index 16 ++ bytesBits f.key.l) r' fr', eD dp b' (bs ++ iBits f.index 16 ++ bytesBits f.key.l) r'] := by
  refine mut_vc tab_ok Tryz.func113 rfl rfl hw ?_
  repeat' ((try (conv => whnf)); (first | (refine CallVC.dputW bs f.index 16 rfl (by repeat (first | exact Take.head _ | apply Take.tail)) (by repeat (first | exact Take.head _ | apply Take.tail)) hf (fit_mk 65536 (by decide) (by decide) (by omega) (by omega)) hbs (by omega) (fun b2 r2 fr2 hf2 => ?_)) | (refine CallVC.dbytesW (bs ++ iBits f.index 16) f.key.l rfl (by repeat (first | exact Take.head _ | apply Take.tail)) (by repeat (first | exact Take.head _ | apply Take.tail)) (by assumption) (by omega) (ne_app hbs) (by simp only [List.length_append, iBits_len, bytesBits_len]; omega) hK hd (fun b3 r3 fr3 hf3 => ?_)) | refine Need.au ?_ | (refine Split.mk (fun hsplit => ?_) (fun hsplit => ?_) <;> (try simp only [List.cons.injEq, and_true, true_and, not_true_eq_false, not_false_eq_true] at hsplit) <;> try (exfalso; omega)) | refine Pick.au ?_ | refine store_au ?_ | refine Any.mk (fun _ => ?_) | refine Both.mk ?_ ?_)); all_goals (try (conv => whnf))
  exact Done.mk ⟨_, List.Sublist.cons_cons _ (List.Sublist.cons_cons _ (List.nil_sublist _)), _, _, _, hf3, rfl⟩
section
variable {G : Cx} {hs : Hp}
theorem CallVC.dkeyW {K : Value → Hp → Prop} (f : Fr) (bs : List Bool) {dp b : Nat} {r : List Value} {fr : Nat × Nat} {r1 r2 : Hp} (hP : G.P = Tryz.prog) (hi : 0 ≤ f.index ∧ f.index ≤ 256) (hk16 : f.key.l.length ≤ 16) (hbs : bs ≠ []) (hb : bs.length ≤ 1000)
    (h1 : Take (eDB b bs r fr) hs r1) (h2 : Take (eD dp b bs r) r1 r2) (hf : Soft fr (boolsV bs ++ r).length) (hK : At G.w0 f.key.a (f.key.l.map b8)) (hd : f.key.l ≠ [] → ∀ a, f.key.a = some a → a.block ∉ G.fp)
    (hk : ∀ v b r fr, Soft fr (boolsV (bs ++ iBits f.index 16 ++ bytesBits f.key.l) ++ r).length → K v (eDB b (bs ++ iBits f.index 16 ++ bytesBits f.key.l) r fr :: eD dp b (bs ++ iBits f.index 16 ++ bytesBits f.key.l) r :: r2)) :
    CallVC G hs 113 [.pointer (some ⟨dp, 0, none⟩), f.v] K := by
  have hpm : hs.Perm ([eDB b bs r fr, eD dp b bs r] ++ r2) := h1.perm.trans (List.Perm.cons _ h2.perm)
  have hB2 : ∀ w, St G hs w → At w f.key.a (f.key.l.map b8) := fun w hw => by
    by_cases hx : f.key.l = []
    · rw [hx]; exact At.nil
    · exact hK.here hw (hd hx)
  refine CallVC.mutT [eDB b bs r fr, eD dp b bs r] r2 hpm (fun w2 h2 h3 => hP ▸ dkey_m f hi hk16 dp b bs r fr hbs hb hf w2 (hB2 w2 h2) (fun hx a ha => (ha ▸ hK).news (by simpa using hx) (hd hx a ha) h2 hpm) (hP ▸ h3)) ?_
  rintro v H ⟨b', r', fr', hf', rfl⟩
  exact hk v b' r' fr' hf'
end
/-- What the document's writer is in the end. -/
def DWritten (bs : List Bool) (v : Value) (hs : Hp) : Prop := ∃ dp b r fr, v = .pointer (some ⟨dp, 0, none⟩) ∧ Soft fr (boolsV bs ++ r).length ∧ List.Sublist [eDB b bs r fr, eD dp b bs r] hs
abbrev Fr.fineC (f : Fr) : Prop := (0 ≤ f.frm ∧ f.frm ≤ 7) ∧ (0 ≤ f.epoch ∧ f.epoch ≤ 65535) ∧ (0 ≤ f.index ∧ f.index ≤ 256) ∧ (0 ≤ f.round ∧ f.round ≤ 1048576) ∧ (0 ≤ f.start ∧ f.start ≤ 1048576) ∧ (0 ≤ f.view ∧ f.view ≤ 255) ∧ 0 ≤ f.stamp ∧ f.stamp ≤ 1099511627776 ∧ f.body.l.length ≤ 16
theorem untagged_c {f : Fr} (h : f.s.untagged.ok) : f.fineC ∧ f.right := ⟨⟨h.1.1, h.1.2.2⟩, h.2⟩
theorem rcore1_r (f : Fr) (hok : f.fineC) (hk1 : f.kind = 1) (hk16 : f.key.l.length = 16) (w : World) (hK : At w f.key.a (f.key.l.map b8)) (hB : At w f.body.a (f.body.l.map b8)) : Ret Tryz.prog 77 [f.v] w (DWritten (((((((iBits f.kind 4 ++ iBits f.frm 4) ++ iBits f.epoch 16) ++ iBits f.round 24) ++ iBits f.view 8) ++ iBits f.index 16 ++ bytesBits f.key.l) ++ iBits (f.body.l.length : Int) 5) ++ bytesBits f.body.l)) := by
  refine ret_vc tab_ok Tryz.func77 rfl rfl ?_
  repeat' ((try (conv => whnf)); (first | (refine CallVC.dput0 f.kind 4 rfl (by repeat (first | exact Take.head _ | apply Take.tail)) (fit_mk 16 (by decide) (by decide) (by omega) (by omega)) (by decide) (fun b0 r0 fr0 hf0 => ?_)) | (refine CallVC.dputW (iBits f.kind 4) f.frm 4 rfl (by repeat (first | exact Take.head _ | apply Take.tail)) (by repeat (first | exact Take.head _ | apply Take.tail)) (by assumption) (fit_mk 16 (by decide) (by decide) (by omega) (by omega)) (iBits_ne (by decide)) (by simp only [List.length_append, iBits_len, bytesBits_len]; omega) (fun b1 r1 fr1 hf1 => ?_)) | (refine CallVC.dputW (iBits f.kind 4 ++ iBits f.frm 4) f.epoch 16 rfl (by repeat (first | exact Take.head _ | apply Take.tail)) (by repeat (first | exact Take.head _ | apply Take.tail)) (by assumption) (fit_mk 65536 (by decide) (by decide) (by omega) (by omega)) (by repeat (first | exact iBits_ne (by decide) | assumption | refine ne_app ?_)) (by simp only [List.length_append, iBits_len, bytesBits_len]; omega) (fun b2 r2 fr2 hf2 => ?_)) | (refine CallVC.dputW ((iBits f.kind 4 ++ iBits f.frm 4) ++ iBits f.epoch 16) f.round 24 rfl (by repeat (first | exact Take.head _ | apply Take.tail)) (by repeat (first | exact Take.head _ | apply Take.tail)) (by assumption) (fit_mk 16777216 (by decide) (by decide) (by omega) (by omega)) (by repeat (first | exact iBits_ne (by decide) | assumption | refine ne_app ?_)) (by simp only [List.length_append, iBits_len, bytesBits_len]; omega) (fun b3 r3 fr3 hf3 => ?_)) | (refine CallVC.dputW (((iBits f.kind 4 ++ iBits f.frm 4) ++ iBits f.epoch 16) ++ iBits f.round 24) f.view 8 rfl (by repeat (first | exact Take.head _ | apply Take.tail)) (by repeat (first | exact Take.head _ | apply Take.tail)) (by assumption) (fit_mk 256 (by decide) (by decide) (by omega) (by omega)) (by repeat (first | exact iBits_ne (by decide) | assumption | refine ne_app ?_)) (by simp only [List.length_append, iBits_len, bytesBits_len]; omega) (fun b4 r4 fr4 hf4 => ?_)) | (refine CallVC.dkeyW f ((((iBits f.kind 4 ++ iBits f.frm 4) ++ iBits f.epoch 16) ++ iBits f.round 24) ++ iBits f.view 8) rfl (by omega) (by omega) (by repeat (first | exact iBits_ne (by decide) | assumption | refine ne_app ?_)) (by simp only [List.length_append, iBits_len, bytesBits_len]; omega) (by repeat (first | exact Take.head _ | apply Take.tail)) (by repeat (first | exact Take.head _ | apply Take.tail)) (by assumption) hK (fun _ _ _ => by simp) (fun v b5 r5 fr5 hf5 => ?_)) | (refine CallVC.dputW (((((iBits f.kind 4 ++ iBits f.frm 4) ++ iBits f.epoch 16) ++ iBits f.round 24) ++ iBits f.view 8) ++ iBits f.index 16 ++ bytesBits f.key.l) (f.body.l.length : Int) 5 rfl (by repeat (first | exact Take.head _ | apply Take.tail)) (by repeat (first | exact Take.head _ | apply Take.tail)) (by assumption) (fit_mk 32 (by decide) (by decide) (by omega) (by omega)) (by repeat (first | exact iBits_ne (by decide) | assumption | refine ne_app ?_)) (by simp only [List.length_append, iBits_len, bytesBits_len]; omega) (fun b6 r6 fr6 hf6 => ?_)) | (refine CallVC.dbytesW ((((((iBits f.kind 4 ++ iBits f.frm 4) ++ iBits f.epoch 16) ++ iBits f.round 24) ++ iBits f.view 8) ++ iBits f.index 16 ++ bytesBits f.key.l) ++ iBits (f.body.l.length : Int) 5) f.body.l rfl (by repeat (first | exact Take.head _ | apply Take.tail)) (by repeat (first | exact Take.head _ | apply Take.tail)) (by assumption) (by omega) (by repeat (first | exact iBits_ne (by decide) | assumption | refine ne_app ?_)) (by simp only [List.length_append, iBits_len, bytesBits_len]; omega) hB (fun _ _ _ => by simp) (fun b7 r7 fr7 hf7 => ?_)) | refine Need.au ?_ | (refine Split.mk (fun hsplit => ?_) (fun hsplit => ?_) <;> (try simp only [List.cons.injEq, and_true, true_and, not_true_eq_false, not_false_eq_true] at hsplit) <;> try (exfalso; omega)) | refine Pick.au ?_ | refine store_au ?_ | refine Any.mk (fun _ => ?_) | refine Both.mk ?_ ?_)); all_goals (try (conv => whnf))
  exact Done.mk ⟨_, b7, r7, fr7, rfl, hf7, by repeat (first | exact List.Sublist.refl _ | exact List.nil_sublist _ | refine List.Sublist.cons_cons _ ?_ | refine List.Sublist.cons _ ?_)⟩
theorem rcore2_r (f : Fr) (hok : f.fineC) (hk1 : f.kind = 2) (hp : f.pair) (w : World) : Ret Tryz.prog 77 [f.v] w (DWritten (((iBits f.kind 4 ++ iBits f.frm 4) ++ iBits f.to 4) ++ iBits (f.nonce.toNat : Int) 64)) := by
  have hnn := f.nonce.isLt
  refine ret_vc tab_ok Tryz.func77 rfl rfl ?_
  repeat' ((try (conv => whnf)); (first | (refine CallVC.dput0 f.kind 4 rfl (by repeat (first | exact Take.head _ | apply Take.tail)) (fit_mk 16 (by decide) (by decide) (by omega) (by omega)) (by decide) (fun b0 r0 fr0 hf0 => ?_)) | (refine CallVC.dputW (iBits f.kind 4) f.frm 4 rfl (by repeat (first | exact Take.head _ | apply Take.tail)) (by repeat (first | exact Take.head _ | apply Take.tail)) (by assumption) (fit_mk 16 (by decide) (by decide) (by omega) (by omega)) (iBits_ne (by decide)) (by simp only [List.length_append, iBits_len, bytesBits_len]; omega) (fun b1 r1 fr1 hf1 => ?_)) | (refine CallVC.dputW (iBits f.kind 4 ++ iBits f.frm 4) f.to 4 rfl (by repeat (first | exact Take.head _ | apply Take.tail)) (by repeat (first | exact Take.head _ | apply Take.tail)) (by assumption) (fit_mk 16 (by decide) (by decide) (by omega) (by omega)) (by repeat (first | exact iBits_ne (by decide) | assumption | refine ne_app ?_)) (by simp only [List.length_append, iBits_len, bytesBits_len]; omega) (fun b2 r2 fr2 hf2 => ?_)) | (refine CallVC.dputW ((iBits f.kind 4 ++ iBits f.frm 4) ++ iBits f.to 4) (f.nonce.toNat : Int) 64 rfl (by repeat (first | exact Take.head _ | apply Take.tail)) (by repeat (first | exact Take.head _ | apply Take.tail)) (by assumption) (fit_mk 18446744073709551616 (by decide) (by decide) (by omega) (by omega)) (by repeat (first | exact iBits_ne (by decide) | assumption | refine ne_app ?_)) (by simp only [List.length_append, iBits_len, bytesBits_len]; omega) (fun b3 r3 fr3 hf3 => ?_)) | refine Need.au ?_ | (refine Split.mk (fun hsplit => ?_) (fun hsplit => ?_) <;> (try simp only [List.cons.injEq, and_true, true_and, not_true_eq_false, not_false_eq_true] at hsplit) <;> try (exfalso; omega)) | refine Pick.au ?_ | refine store_au ?_ | refine Any.mk (fun _ => ?_) | refine Both.mk ?_ ?_)); all_goals (try (conv => whnf))
  exact Done.mk ⟨_, b3, r3, fr3, rfl, hf3, by repeat (first | exact List.Sublist.refl _ | exact List.nil_sublist _ | refine List.Sublist.cons_cons _ ?_ | refine List.Sublist.cons _ ?_)⟩
theorem rcore3_r (f : Fr) (hok : f.fineC) (hk1 : f.kind = 3) (hp : f.pair) (hk16 : f.key.l.length = 16) (w : World) (hK : At w f.key.a (f.key.l.map b8)) : Ret Tryz.prog 77 [f.v] w (DWritten (((((((iBits f.kind 4 ++ iBits f.frm 4) ++ iBits f.to 4) ++ iBits (f.nonce.toNat : Int) 64) ++ iBits f.stamp 48) ++ iBits f.epoch 16) ++ iBits f.start 24) ++ iBits f.index 16 ++ bytesBits f.key.l)) := by
  have hnn := f.nonce.isLt
  refine ret_vc tab_ok Tryz.func77 rfl rfl ?_
  repeat' ((try (conv => whnf)); (first | (refine CallVC.dput0 f.kind 4 rfl (by repeat (first | exact Take.head _ | apply Take.tail)) (fit_mk 16 (by decide) (by decide) (by omega) (by omega)) (by decide) (fun b0 r0 fr0 hf0 => ?_)) | (refine CallVC.dputW (iBits f.kind 4) f.frm 4 rfl (by repeat (first | exact Take.head _ | apply Take.tail)) (by repeat (first | exact Take.head _ | apply Take.tail)) (by assumption) (fit_mk 16 (by decide) (by decide) (by omega) (by omega)) (iBits_ne (by decide)) (by simp only [List.length_append, iBits_len, bytesBits_len]; omega) (fun b1 r1 fr1 hf1 => ?_)) | (refine CallVC.dputW (iBits f.kind 4 ++ iBits f.frm 4) f.to 4 rfl (by repeat (first | exact Take.head _ | apply Take.tail)) (by repeat (first | exact Take.head _ | apply Take.tail)) (by assumption) (fit_mk 16 (by decide) (by decide) (by omega) (by omega)) (by repeat (first | exact iBits_ne (by decide) | assumption | refine ne_app ?_)) (by simp only [List.length_append, iBits_len, bytesBits_len]; omega) (fun b2 r2 fr2 hf2 => ?_)) | (refine CallVC.dputW ((iBits f.kind 4 ++ iBits f.frm 4) ++ iBits f.to 4) (f.nonce.toNat : Int) 64 rfl (by repeat (first | exact Take.head _ | apply Take.tail)) (by repeat (first | exact Take.head _ | apply Take.tail)) (by assumption) (fit_mk 18446744073709551616 (by decide) (by decide) (by omega) (by omega)) (by repeat (first | exact iBits_ne (by decide) | assumption | refine ne_app ?_)) (by simp only [List.length_append, iBits_len, bytesBits_len]; omega) (fun b3 r3 fr3 hf3 => ?_)) | (refine CallVC.dputW (((iBits f.kind 4 ++ iBits f.frm 4) ++ iBits f.to 4) ++ iBits (f.nonce.toNat : Int) 64) f.stamp 48 rfl (by repeat (first | exact Take.head _ | apply Take.tail)) (by repeat (first | exact Take.head _ | apply Take.tail)) (by assumption) (fit_mk 281474976710656 (by decide) (by decide) (by omega) (by omega)) (by repeat (first | exact iBits_ne (by decide) | assumption | refine ne_app ?_)) (by simp only [List.length_append, iBits_len, bytesBits_len]; omega) (fun b4 r4 fr4 hf4 => ?_)) | (refine CallVC.dputW ((((iBits f.kind 4 ++ iBits f.frm 4) ++ iBits f.to 4) ++ iBits (f.nonce.toNat : Int) 64) ++ iBits f.stamp 48) f.epoch 16 rfl (by repeat (first | exact Take.head _ | apply Take.tail)) (by repeat (first | exact Take.head _ | apply Take.tail)) (by assumption) (fit_mk 65536 (by decide) (by decide) (by omega) (by omega)) (by repeat (first | exact iBits_ne (by decide) | assumption | refine ne_app ?_)) (by simp only [List.length_append, iBits_len, bytesBits_len]; omega) (fun b5 r5 fr5 hf5 => ?_)) | (refine CallVC.dputW (((((iBits f.kind 4 ++ iBits f.frm 4) ++ iBits f.to 4) ++ iBits (f.nonce.toNat : Int) 64) ++ iBits f.stamp 48) ++ iBits f.epoch 16) f.start 24 rfl (by repeat (first | exact Take.head _ | apply Take.tail)) (by repeat (first | exact Take.head _ | apply Take.tail)) (by assumption) (fit_mk 16777216 (by decide) (by decide) (by omega) (by omega)) (by repeat (first | exact iBits_ne (by decide) | assumption | refine ne_app ?_)) (by simp only [List.length_append, iBits_len, bytesBits_len]; omega) (fun b6 r6 fr6 hf6 => ?_)) | (refine CallVC.dkeyW f ((((((iBits f.kind 4 ++ iBits f.frm 4) ++ iBits f.to 4) ++ iBits (f.nonce.toNat : Int) 64) ++ iBits f.stamp 48) ++ iBits f.epoch 16) ++ iBits f.start 24) rfl (by omega) (by omega) (by repeat (first | exact iBits_ne (by decide) | assumption | refine ne_app ?_)) (by simp only [List.length_append, iBits_len, bytesBits_len]; omega) (by repeat (first | exact Take.head _ | apply Take.tail)) (by repeat (first | exact Take.head _ | apply Take.tail)) (by assumption) hK (fun _ _ _ => by simp) (fun v b7 r7 fr7 hf7 => ?_)) | refine Need.au ?_ | (refine Split.mk (fun hsplit => ?_) (fun hsplit => ?_) <;> (try simp only [List.cons.injEq, and_true, true_and, not_true_eq_false, not_false_eq_true] at hsplit) <;> try (exfalso; omega)) | refine Pick.au ?_ | refine store_au ?_ | refine Any.mk (fun _ => ?_) | refine Both.mk ?_ ?_)); all_goals (try (conv => whnf))
  exact Done.mk ⟨_, b7, r7, fr7, rfl, hf7, by repeat (first | exact List.Sublist.refl _ | exact List.nil_sublist _ | refine List.Sublist.cons_cons _ ?_ | refine List.Sublist.cons _ ?_)⟩
theorem rcore_r (f : Fr) (hok : f.s.untagged.ok) (w : World) (hK : At w f.key.a (f.key.l.map b8)) (hB : At w f.body.a (f.body.l.map b8)) : Ret Tryz.prog 77 [f.v] w (DWritten (coreBits f.s)) := by
  obtain ⟨hf, h⟩ := untagged_c hok
  rcases h with ⟨h1, h2⟩ | ⟨h1, h2⟩ | ⟨h1, h2⟩
  · have e : coreBits f.s = ((((((iBits f.kind 4 ++ iBits f.frm 4) ++ iBits f.epoch 16) ++ iBits f.round 24) ++ iBits f.view 8) ++ iBits f.index 16 ++ bytesBits f.key.l) ++ iBits (f.body.l.length : Int) 5) ++ bytesBits f.body.l := by
      unfold coreBits dataBits headBits
      rw [if_pos h1]
      simp only [pBits, List.append_nil, List.append_assoc]
    rw [e]; exact rcore1_r f hf h1 h2.2.2 w hK hB
  · have e : coreBits f.s = (((iBits f.kind 4 ++ iBits f.frm 4) ++ iBits f.to 4) ++ iBits (f.nonce.toNat : Int) 64) := by
      unfold coreBits pingBits headBits
      rw [if_neg (by show f.kind ≠ 1; omega), if_pos h1]
      simp only [pBits, List.append_nil, List.append_assoc]
    rw [e]; exact rcore2_r f hf h1 h2.2.2.1 w
  · have e : coreBits f.s = ((((((iBits f.kind 4 ++ iBits f.frm 4) ++ iBits f.to 4) ++ iBits (f.nonce.toNat : Int) 64) ++ iBits f.stamp 48) ++ iBits f.epoch 16) ++ iBits f.start 24) ++ iBits f.index 16 ++ bytesBits f.key.l := by
      unfold coreBits pongBits pingBits headBits
      rw [if_neg (by show f.kind ≠ 1; omega), if_neg (by show f.kind ≠ 2; omega)]
      simp only [pBits, List.append_nil, List.append_assoc]
    rw [e]; exact rcore3_r f hf h1 h2.1 h2.2.2 w hK
end Go.Proofs.YtnlheljpagpiiaaGreat
