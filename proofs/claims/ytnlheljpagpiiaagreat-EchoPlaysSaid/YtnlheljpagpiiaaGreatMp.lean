/-
  Frames that are read: what they are; the program reads them so; every input. Frames that are read, in the document: numbers, rows; every input.
-/
import Derived.Test.YtnlheljpagpiiaaGreatMo
namespace Go.Proofs.YtnlheljpagpiiaaGreat
section
set_option linter.unusedVariables false
set_option linter.unusedSimpArgs false
set_option maxRecDepth 100000
set_option maxHeartbeats 8000000
open Go
def rd0 : Rd := ⟨0, false⟩
/-- The frame of bits, and where its reader is then. -/
def rKind (bs : List Bool) : Int := ((rd0.num bs 4).toNat : Int)
def rd2 (bs : List Bool) : Rd := (rd0.skip bs 4).skip bs 4
def rFrm (bs : List Bool) : Int := (((rd0.skip bs 4).num bs 4).toNat : Int)
def dataF (bs : List Bool) : FrS × Rd :=
  let s3 := (rd2 bs).skip bs 16
  let s4 := s3.skip bs 24
  let s5 := s4.skip bs 8
  let s6 := s5.skip bs 16
  let s7 := s6.skip bs (8 * 16)
  let n := (s7.num bs 5).toNat
  let s8 := s7.skip bs 5
  let s9 := s8.skip bs (8 * n)
  (⟨rKind bs, rFrm bs, 0, (((rd2 bs).num bs 16).toNat : Int), 0, ((s3.num bs 24).toNat : Int), 0#64, 0, ((s4.num bs 8).toNat : Int), ((s5.num bs 16).toNat : Int), s6.row bs 16, s8.row bs n, s9.row bs 8⟩, s9.skip bs (8 * 8))
def pingF (bs : List Bool) : FrS × Rd :=
  let s3 := (rd2 bs).skip bs 4
  let s4 := s3.skip bs 64
  (⟨rKind bs, rFrm bs, (((rd2 bs).num bs 4).toNat : Int), 0, 0, 0, s3.num bs 64, 0, 0, 0, [], [], s4.row bs 8⟩, s4.skip bs (8 * 8))
def pongF (bs : List Bool) : FrS × Rd :=
  let s3 := (rd2 bs).skip bs 4
  let s4 := s3.skip bs 64
  let s5 := s4.skip bs 48
  let s6 := s5.skip bs 16
  let s7 := s6.skip bs 24
  let s8 := s7.skip bs 16
  let s9 := s8.skip bs (8 * 16)
  (⟨rKind bs, rFrm bs, (((rd2 bs).num bs 4).toNat : Int), ((s5.num bs 16).toNat : Int), ((s6.num bs 24).toNat : Int), 0, s3.num bs 64, ((s4.num bs 48).toNat : Int), 0, ((s7.num bs 16).toNat : Int), s8.row bs 16, [], s9.row bs 8⟩, s9.skip bs (8 * 8))
def rdLost (s : Rd) : Rd := ⟨s.at_, true⟩
def badF (bs : List Bool) : FrS × Rd :=
  let s3 := rdLost (rd2 bs)
  (⟨rKind bs, rFrm bs, 0, 0, 0, 0, 0#64, 0, 0, 0, [], [], s3.row bs 8⟩, s3.skip bs (8 * 8))
def readF (bs : List Bool) : FrS × Rd := if rKind bs = 1 then dataF bs else if rKind bs = 2 then pingF bs else if rKind bs = 3 then pongF bs else badF bs
/-- A frame whose rows are the call's own. -/
def FOwn (f : Fr) (E : Hp) : Prop := ∃ E1 E2 E3, Own f.key.a f.key.l f.key.c E1 ∧ Own f.body.a f.body.l f.body.c E2 ∧ Own f.tag.a f.tag.l f.tag.c E3 ∧ E = E1 ++ E2 ++ E3
abbrev slNil : Sl := ⟨none, [], 0⟩
attribute [local irreducible] bitsOf shlOf shrOf pack numBits numOf bytesBits rowAt rd0 Rd.num Rd.skip Rd.row rdLost
section
variable {G : Cx} {hs hs' : Hp} {b : Nat} {K : Hp → Prop}
theorem store_frame {cs : List Value} (f : Fr) (hu : Upd ⟨b, cs, 25, (0, 0)⟩ (eF b f) hs hs') (hl : cs.length = 13) (h : K hs') : StoreVC G hs ⟨b, 0, none⟩ f.cs K :=
  store_all hu soft0 rfl (by rw [hl]; rfl) h
variable {x0 x1 x2 x3 x4 x5 x7 x8 x9 : Int} {x6 : BitVec 64} {x10 x11 x12 : Sl}
theorem store_to {v : Int} (hu : Upd (eF b ⟨x0, x1, x2, x3, x4, x5, x6, x7, x8, x9, x10, x11, x12⟩) (eF b ⟨x0, x1, v, x3, x4, x5, x6, x7, x8, x9, x10, x11, x12⟩) hs hs') (h : K hs') : StoreVC G hs ⟨b, 2, none⟩ [.int .i64 v] K :=
  StoreVC.at_ (t := 25) (fr := (0, 0)) hu soft0 rfl (by show 2 + 1 ≤ 13; omega) h
theorem store_epoch {v : Int} (hu : Upd (eF b ⟨x0, x1, x2, x3, x4, x5, x6, x7, x8, x9, x10, x11, x12⟩) (eF b ⟨x0, x1, x2, v, x4, x5, x6, x7, x8, x9, x10, x11, x12⟩) hs hs') (h : K hs') : StoreVC G hs ⟨b, 3, none⟩ [.int .i64 v] K :=
  StoreVC.at_ (t := 25) (fr := (0, 0)) hu soft0 rfl (by show 3 + 1 ≤ 13; omega) h
theorem store_start {v : Int} (hu : Upd (eF b ⟨x0, x1, x2, x3, x4, x5, x6, x7, x8, x9, x10, x11, x12⟩) (eF b ⟨x0, x1, x2, x3, v, x5, x6, x7, x8, x9, x10, x11, x12⟩) hs hs') (h : K hs') : StoreVC G hs ⟨b, 4, none⟩ [.int .i64 v] K :=
  StoreVC.at_ (t := 25) (fr := (0, 0)) hu soft0 rfl (by show 4 + 1 ≤ 13; omega) h
theorem store_round {v : Int} (hu : Upd (eF b ⟨x0, x1, x2, x3, x4, x5, x6, x7, x8, x9, x10, x11, x12⟩) (eF b ⟨x0, x1, x2, x3, x4, v, x6, x7, x8, x9, x10, x11, x12⟩) hs hs') (h : K hs') : StoreVC G hs ⟨b, 5, none⟩ [.int .i64 v] K :=
  StoreVC.at_ (t := 25) (fr := (0, 0)) hu soft0 rfl (by show 5 + 1 ≤ 13; omega) h
theorem store_nonce {v : BitVec 64} (hu : Upd (eF b ⟨x0, x1, x2, x3, x4, x5, x6, x7, x8, x9, x10, x11, x12⟩) (eF b ⟨x0, x1, x2, x3, x4, x5, v, x7, x8, x9, x10, x11, x12⟩) hs hs') (h : K hs') : StoreVC G hs ⟨b, 6, none⟩ [w64 v] K :=
  StoreVC.at_ (t := 25) (fr := (0, 0)) hu soft0 rfl (by show 6 + 1 ≤ 13; omega) h
theorem store_stamp {v : Int} (hu : Upd (eF b ⟨x0, x1, x2, x3, x4, x5, x6, x7, x8, x9, x10, x11, x12⟩) (eF b ⟨x0, x1, x2, x3, x4, x5, x6, v, x8, x9, x10, x11, x12⟩) hs hs') (h : K hs') : StoreVC G hs ⟨b, 7, none⟩ [.int .i64 v] K :=
  StoreVC.at_ (t := 25) (fr := (0, 0)) hu soft0 rfl (by show 7 + 1 ≤ 13; omega) h
theorem store_view {v : Int} (hu : Upd (eF b ⟨x0, x1, x2, x3, x4, x5, x6, x7, x8, x9, x10, x11, x12⟩) (eF b ⟨x0, x1, x2, x3, x4, x5, x6, x7, v, x9, x10, x11, x12⟩) hs hs') (h : K hs') : StoreVC G hs ⟨b, 8, none⟩ [.int .i64 v] K :=
  StoreVC.at_ (t := 25) (fr := (0, 0)) hu soft0 rfl (by show 8 + 1 ≤ 13; omega) h
theorem store_index {v : Int} (hu : Upd (eF b ⟨x0, x1, x2, x3, x4, x5, x6, x7, x8, x9, x10, x11, x12⟩) (eF b ⟨x0, x1, x2, x3, x4, x5, x6, x7, x8, v, x10, x11, x12⟩) hs hs') (h : K hs') : StoreVC G hs ⟨b, 9, none⟩ [.int .i64 v] K :=
  StoreVC.at_ (t := 25) (fr := (0, 0)) hu soft0 rfl (by show 9 + 1 ≤ 13; omega) h
theorem store_key (l : List B8) {a : Option Addr} {c : Nat} (hu : Upd (eF b ⟨x0, x1, x2, x3, x4, x5, x6, x7, x8, x9, x10, x11, x12⟩) (eF b ⟨x0, x1, x2, x3, x4, x5, x6, x7, x8, x9, ⟨a, l, c⟩, x11, x12⟩) hs hs') (h : K hs') : StoreVC G hs ⟨b, 10, none⟩ [.slice a l.length c] K :=
  StoreVC.at_ (t := 25) (fr := (0, 0)) hu soft0 rfl (by show 10 + 1 ≤ 13; omega) h
theorem store_body (l : List B8) {a : Option Addr} {c : Nat} (hu : Upd (eF b ⟨x0, x1, x2, x3, x4, x5, x6, x7, x8, x9, x10, x11, x12⟩) (eF b ⟨x0, x1, x2, x3, x4, x5, x6, x7, x8, x9, x10, ⟨a, l, c⟩, x12⟩) hs hs') (h : K hs') : StoreVC G hs ⟨b, 11, none⟩ [.slice a l.length c] K :=
  StoreVC.at_ (t := 25) (fr := (0, 0)) hu soft0 rfl (by show 11 + 1 ≤ 13; omega) h
theorem store_tag (l : List B8) {a : Option Addr} {c : Nat} (hu : Upd (eF b ⟨x0, x1, x2, x3, x4, x5, x6, x7, x8, x9, x10, x11, x12⟩) (eF b ⟨x0, x1, x2, x3, x4, x5, x6, x7, x8, x9, x10, x11, ⟨a, l, c⟩⟩) hs hs') (h : K hs') : StoreVC G hs ⟨b, 12, none⟩ [.slice a l.length c] K :=
  StoreVC.at_ (t := 25) (fr := (0, 0)) hu soft0 rfl (by show 12 + 1 ≤ 13; omega) h
end
/-- What the frame's reader comes to. -/
def ReadF (r : FrS × Rd) (rp fp : Nat) (A : Option Addr) (L C : Nat) (v : Value) (H : Hp) : Prop := ∃ f E, v = f.v ∧ f.s = r.1 ∧ FOwn f E ∧ H = rE rp A L C r.2.at_ :: frE fp rp r.2.lost :: E
theorem frame1_m (fp rp : Nat) (A : Option Addr) (l : List B8) (C : Nat) (hl : l.length ≤ 140737488351232) (w : World) (hA : At w A (l.map b8)) (hd : l ≠ [] → ∀ a, A = some a → a.block ∉ [rp, fp]) (hw : St ⟨Tryz.prog, w, [rp, fp]⟩ [rE rp A l.length C rd0.at_, frE fp rp rd0.lost] w) (hk : rKind (bytesBits l) = 1) : Mut Tryz.prog 98 [.pointer (some ⟨fp, 0, none⟩)] w [rE rp A l.length C rd0.at_, frE fp rp rd0.lost] fun v hs2 => ∃ H, List.Sublist H hs2 ∧ ReadF (dataF (bytesBits l)) rp fp A l.length C v H := by
  have hsk : ∀ (s : Rd) (wd : Nat), s.at_ ≤ 8 * l.length → (s.skip (bytesBits l) wd).at_ ≤ 8 * l.length := fun s wd h => by
    have h2 := Rd.skip_le (bs := bytesBits l) (s := s) (by rw [bytesBits_len]; exact h) wd
    rwa [bytesBits_len] at h2
  have h00 : rd0.at_ ≤ 8 * l.length := by unfold rd0; exact Nat.zero_le _
  unfold rKind at hk
  refine mut_vc tab_ok Tryz.func98 rfl rfl hw ?_
  have hn : ∀ s : Rd, (s.num (bytesBits l) 5).toNat ≤ 1024 := fun s => by
    have := Rd.num_lt (bytesBits l) s 5 (by decide)
    omega
  repeat' ((try (conv => whnf)); (first | (refine Split.mk (fun hsplit => absurd (hk.symm.trans hsplit) (by decide)) (fun hsplit => ?_)) | (refine Split.mk (fun hsplit => ?_) (fun hsplit => absurd hk hsplit)) | refine store_frame ⟨_, _, 0, 0, 0, 0, 0#64, 0, 0, 0, slNil, slNil, slNil⟩ (by repeat (first | exact Upd.head _ | apply Upd.tail)) rfl ?_ | refine store_to (by repeat (first | exact Upd.head _ | apply Upd.tail)) ?_ | refine store_epoch (by repeat (first | exact Upd.head _ | apply Upd.tail)) ?_ | refine store_start (by repeat (first | exact Upd.head _ | apply Upd.tail)) ?_ | refine store_round (by repeat (first | exact Upd.head _ | apply Upd.tail)) ?_ | refine store_nonce (by repeat (first | exact Upd.head _ | apply Upd.tail)) ?_ | refine store_stamp (by repeat (first | exact Upd.head _ | apply Upd.tail)) ?_ | refine store_view (by repeat (first | exact Upd.head _ | apply Upd.tail)) ?_ | refine store_index (by repeat (first | exact Upd.head _ | apply Upd.tail)) ?_ | refine store_key (Rd.row _ _ _) (by repeat (first | exact Upd.head _ | apply Upd.tail)) ?_ | refine store_body (Rd.row _ _ _) (by repeat (first | exact Upd.head _ | apply Upd.tail)) ?_ | refine store_tag (Rd.row _ _ _) (by repeat (first | exact Upd.head _ | apply Upd.tail)) ?_ | refine CallVC.fint l _ 4 rfl hl (by repeat (first | exact Take.head _ | apply Take.tail)) (by repeat (first | exact Take.head _ | apply Take.tail)) (by decide) (by repeat (first | exact h00 | refine hsk _ _ ?_)) (fun w2 h2 => hA.here2 h2 hd) hd ?_ | refine CallVC.fint l _ 5 rfl hl (by repeat (first | exact Take.head _ | apply Take.tail)) (by repeat (first | exact Take.head _ | apply Take.tail)) (by decide) (by repeat (first | exact h00 | refine hsk _ _ ?_)) (fun w2 h2 => hA.here2 h2 hd) hd ?_ | refine CallVC.fint l _ 8 rfl hl (by repeat (first | exact Take.head _ | apply Take.tail)) (by repeat (first | exact Take.head _ | apply Take.tail)) (by decide) (by repeat (first | exact h00 | refine hsk _ _ ?_)) (fun w2 h2 => hA.here2 h2 hd) hd ?_ | refine CallVC.fint l _ 16 rfl hl (by repeat (first | exact Take.head _ | apply Take.tail)) (by repeat (first | exact Take.head _ | apply Take.tail)) (by decide) (by repeat (first | exact h00 | refine hsk _ _ ?_)) (fun w2 h2 => hA.here2 h2 hd) hd ?_ | refine CallVC.fint l _ 24 rfl hl (by repeat (first | exact Take.head _ | apply Take.tail)) (by repeat (first | exact Take.head _ | apply Take.tail)) (by decide) (by repeat (first | exact h00 | refine hsk _ _ ?_)) (fun w2 h2 => hA.here2 h2 hd) hd ?_ | (refine CallVC.fbytes l _ 16 rfl hl (by repeat (first | exact Take.head _ | apply Take.tail)) (by repeat (first | exact Take.head _ | apply Take.tail)) (by decide) (by repeat (first | exact h00 | refine hsk _ _ ?_)) (fun w2 h2 => hA.here2 h2 hd) hd (fun Bk ck Ek hOk => ?_)) | (refine CallVC.fbytes l _ 8 rfl hl (by repeat (first | exact Take.head _ | apply Take.tail)) (by repeat (first | exact Take.head _ | apply Take.tail)) (by decide) (by repeat (first | exact h00 | refine hsk _ _ ?_)) (fun w2 h2 => hA.here2 h2 hd) hd (fun Bt ct Et hOt => ?_)) | (refine CallVC.fbytes l _ _ rfl hl (by repeat (first | exact Take.head _ | apply Take.tail)) (by repeat (first | exact Take.head _ | apply Take.tail)) (hn _) (by repeat (first | exact h00 | refine hsk _ _ ?_)) (fun w2 h2 => hA.here2 h2 hd) hd (fun Bb cb Eb hOb => ?_)) | refine Need.au ?_ | (refine Split.mk (fun hsplit => ?_) (fun hsplit => ?_) <;> (try simp only [List.cons.injEq, and_true, true_and, not_true_eq_false, not_false_eq_true] at hsplit) <;> try (exfalso; omega)) | refine Pick.au ?_ | refine store_au ?_ | refine Any.mk (fun _ => ?_) | refine Both.mk ?_ ?_)); all_goals (try (conv => whnf))
  exact Done.mk ⟨_, List.Sublist.cons_cons _ (List.Sublist.cons_cons _ (by repeat (first | exact List.Sublist.refl _ | exact List.nil_sublist _ | refine List.Sublist.append ?_ (List.Sublist.refl _) | refine List.Sublist.cons _ ?_))), ⟨((rd0.num (bytesBits l) 4).toNat : Int), _, 0, _, 0, _, 0#64, 0, _, _, ⟨Bk, _, ck⟩, ⟨Bb, _, cb⟩, ⟨Bt, _, ct⟩⟩, _, rfl, rfl, ⟨Ek, Eb, Et, hOk, hOb, hOt, rfl⟩, rfl⟩
theorem frame2_m (fp rp : Nat) (A : Option Addr) (l : List B8) (C : Nat) (hl : l.length ≤ 140737488351232) (w : World) (hA : At w A (l.map b8)) (hd : l ≠ [] → ∀ a, A = some a → a.block ∉ [rp, fp]) (hw : St ⟨Tryz.prog, w, [rp, fp]⟩ [rE rp A l.length C rd0.at_, frE fp rp rd0.lost] w) (hk : rKind (bytesBits l) = 2) : Mut Tryz.prog 98 [.pointer (some ⟨fp, 0, none⟩)] w [rE rp A l.length C rd0.at_, frE fp rp rd0.lost] fun v hs2 => ∃ H, List.Sublist H hs2 ∧ ReadF (pingF (bytesBits l)) rp fp A l.length C v H := by
  have hsk : ∀ (s : Rd) (wd : Nat), s.at_ ≤ 8 * l.length → (s.skip (bytesBits l) wd).at_ ≤ 8 * l.length := fun s wd h => by
    have h2 := Rd.skip_le (bs := bytesBits l) (s := s) (by rw [bytesBits_len]; exact h) wd
    rwa [bytesBits_len] at h2
  have h00 : rd0.at_ ≤ 8 * l.length := by unfold rd0; exact Nat.zero_le _
  unfold rKind at hk
  refine mut_vc tab_ok Tryz.func98 rfl rfl hw ?_
  repeat' ((try (conv => whnf)); (first | (refine Split.mk (fun hsplit => absurd (hk.symm.trans hsplit) (by decide)) (fun hsplit => ?_)) | (refine Split.mk (fun hsplit => ?_) (fun hsplit => absurd hk hsplit)) | refine store_frame ⟨_, _, 0, 0, 0, 0, 0#64, 0, 0, 0, slNil, slNil, slNil⟩ (by repeat (first | exact Upd.head _ | apply Upd.tail)) rfl ?_ | refine store_to (by repeat (first | exact Upd.head _ | apply Upd.tail)) ?_ | refine store_epoch (by repeat (first | exact Upd.head _ | apply Upd.tail)) ?_ | refine store_start (by repeat (first | exact Upd.head _ | apply Upd.tail)) ?_ | refine store_round (by repeat (first | exact Upd.head _ | apply Upd.tail)) ?_ | refine store_nonce (by repeat (first | exact Upd.head _ | apply Upd.tail)) ?_ | refine store_stamp (by repeat (first | exact Upd.head _ | apply Upd.tail)) ?_ | refine store_view (by repeat (first | exact Upd.head _ | apply Upd.tail)) ?_ | refine store_index (by repeat (first | exact Upd.head _ | apply Upd.tail)) ?_ | refine store_key (Rd.row _ _ _) (by repeat (first | exact Upd.head _ | apply Upd.tail)) ?_ | refine store_body (Rd.row _ _ _) (by repeat (first | exact Upd.head _ | apply Upd.tail)) ?_ | refine store_tag (Rd.row _ _ _) (by repeat (first | exact Upd.head _ | apply Upd.tail)) ?_ | refine CallVC.fint l _ 4 rfl hl (by repeat (first | exact Take.head _ | apply Take.tail)) (by repeat (first | exact Take.head _ | apply Take.tail)) (by decide) (by repeat (first | exact h00 | refine hsk _ _ ?_)) (fun w2 h2 => hA.here2 h2 hd) hd ?_ | refine CallVC.fnum (wd := 64) l _ rfl hl (by repeat (first | exact Take.head _ | apply Take.tail)) (by repeat (first | exact Take.head _ | apply Take.tail)) (by decide) (by repeat (first | exact h00 | refine hsk _ _ ?_)) (fun w2 h2 => hA.here2 h2 hd) hd ?_ | (refine CallVC.fbytes l _ 8 rfl hl (by repeat (first | exact Take.head _ | apply Take.tail)) (by repeat (first | exact Take.head _ | apply Take.tail)) (by decide) (by repeat (first | exact h00 | refine hsk _ _ ?_)) (fun w2 h2 => hA.here2 h2 hd) hd (fun Bt ct Et hOt => ?_)) | refine Need.au ?_ | (refine Split.mk (fun hsplit => ?_) (fun hsplit => ?_) <;> (try simp only [List.cons.injEq, and_true, true_and, not_true_eq_false, not_false_eq_true] at hsplit) <;> try (exfalso; omega)) | refine Pick.au ?_ | refine store_au ?_ | refine Any.mk (fun _ => ?_) | refine Both.mk ?_ ?_)); all_goals (try (conv => whnf))
  exact Done.mk ⟨_, List.Sublist.cons_cons _ (List.Sublist.cons_cons _ (by repeat (first | exact List.Sublist.refl _ | exact List.nil_sublist _ | refine List.Sublist.append ?_ (List.Sublist.refl _) | refine List.Sublist.cons _ ?_))), ⟨((rd0.num (bytesBits l) 4).toNat : Int), _, _, 0, 0, 0, _, 0, 0, 0, slNil, slNil, ⟨Bt, _, ct⟩⟩, _, rfl, rfl, ⟨[], [], Et, Own.none, Own.none, hOt, rfl⟩, rfl⟩
theorem frame3_m (fp rp : Nat) (A : Option Addr) (l : List B8) (C : Nat) (hl : l.length ≤ 140737488351232) (w : World) (hA : At w A (l.map b8)) (hd : l ≠ [] → ∀ a, A = some a → a.block ∉ [rp, fp]) (hw : St ⟨Tryz.prog, w, [rp, fp]⟩ [rE rp A l.length C rd0.at_, frE fp rp rd0.lost] w) (hk : rKind (bytesBits l) = 3) : Mut Tryz.prog 98 [.pointer (some ⟨fp, 0, none⟩)] w [rE rp A l.length C rd0.at_, frE fp rp rd0.lost] fun v hs2 => ∃ H, List.Sublist H hs2 ∧ ReadF (pongF (bytesBits l)) rp fp A l.length C v H := by
  have hsk : ∀ (s : Rd) (wd : Nat), s.at_ ≤ 8 * l.length → (s.skip (bytesBits l) wd).at_ ≤ 8 * l.length := fun s wd h => by
    have h2 := Rd.skip_le (bs := bytesBits l) (s := s) (by rw [bytesBits_len]; exact h) wd
    rwa [bytesBits_len] at h2
  have h00 : rd0.at_ ≤ 8 * l.length := by unfold rd0; exact Nat.zero_le _
  unfold rKind at hk
  refine mut_vc tab_ok Tryz.func98 rfl rfl hw ?_
  repeat' ((try (conv => whnf)); (first | (refine Split.mk (fun hsplit => absurd (hk.symm.trans hsplit) (by decide)) (fun hsplit => ?_)) | (refine Split.mk (fun hsplit => ?_) (fun hsplit => absurd hk hsplit)) | refine store_frame ⟨_, _, 0, 0, 0, 0, 0#64, 0, 0, 0, slNil, slNil, slNil⟩ (by repeat (first | exact Upd.head _ | apply Upd.tail)) rfl ?_ | refine store_to (by repeat (first | exact Upd.head _ | apply Upd.tail)) ?_ | refine store_epoch (by repeat (first | exact Upd.head _ | apply Upd.tail)) ?_ | refine store_start (by repeat (first | exact Upd.head _ | apply Upd.tail)) ?_ | refine store_round (by repeat (first | exact Upd.head _ | apply Upd.tail)) ?_ | refine store_nonce (by repeat (first | exact Upd.head _ | apply Upd.tail)) ?_ | refine store_stamp (by repeat (first | exact Upd.head _ | apply Upd.tail)) ?_ | refine store_view (by repeat (first | exact Upd.head _ | apply Upd.tail)) ?_ | refine store_index (by repeat (first | exact Upd.head _ | apply Upd.tail)) ?_ | refine store_key (Rd.row _ _ _) (by repeat (first | exact Upd.head _ | apply Upd.tail)) ?_ | refine store_body (Rd.row _ _ _) (by repeat (first | exact Upd.head _ | apply Upd.tail)) ?_ | refine store_tag (Rd.row _ _ _) (by repeat (first | exact Upd.head _ | apply Upd.tail)) ?_ | refine CallVC.fint l _ 4 rfl hl (by repeat (first | exact Take.head _ | apply Take.tail)) (by repeat (first | exact Take.head _ | apply Take.tail)) (by decide) (by repeat (first | exact h00 | refine hsk _ _ ?_)) (fun w2 h2 => hA.here2 h2 hd) hd ?_ | refine CallVC.fint l _ 16 rfl hl (by repeat (first | exact Take.head _ | apply Take.tail)) (by repeat (first | exact Take.head _ | apply Take.tail)) (by decide) (by repeat (first | exact h00 | refine hsk _ _ ?_)) (fun w2 h2 => hA.here2 h2 hd) hd ?_ | refine CallVC.fint l _ 24 rfl hl (by repeat (first | exact Take.head _ | apply Take.tail)) (by repeat (first | exact Take.head _ | apply Take.tail)) (by decide) (by repeat (first | exact h00 | refine hsk _ _ ?_)) (fun w2 h2 => hA.here2 h2 hd) hd ?_ | refine CallVC.fint l _ 48 rfl hl (by repeat (first | exact Take.head _ | apply Take.tail)) (by repeat (first | exact Take.head _ | apply Take.tail)) (by decide) (by repeat (first | exact h00 | refine hsk _ _ ?_)) (fun w2 h2 => hA.here2 h2 hd) hd ?_ | refine CallVC.fnum (wd := 64) l _ rfl hl (by repeat (first | exact Take.head _ | apply Take.tail)) (by repeat (first | exact Take.head _ | apply Take.tail)) (by decide) (by repeat (first | exact h00 | refine hsk _ _ ?_)) (fun w2 h2 => hA.here2 h2 hd) hd ?_ | (refine CallVC.fbytes l _ 16 rfl hl (by repeat (first | exact Take.head _ | apply Take.tail)) (by repeat (first | exact Take.head _ | apply Take.tail)) (by decide) (by repeat (first | exact h00 | refine hsk _ _ ?_)) (fun w2 h2 => hA.here2 h2 hd) hd (fun Bk ck Ek hOk => ?_)) | (refine CallVC.fbytes l _ 8 rfl hl (by repeat (first | exact Take.head _ | apply Take.tail)) (by repeat (first | exact Take.head _ | apply Take.tail)) (by decide) (by repeat (first | exact h00 | refine hsk _ _ ?_)) (fun w2 h2 => hA.here2 h2 hd) hd (fun Bt ct Et hOt => ?_)) | refine Need.au ?_ | (refine Split.mk (fun hsplit => ?_) (fun hsplit => ?_) <;> (try simp only [List.cons.injEq, and_true, true_and, not_true_eq_false, not_false_eq_true] at hsplit) <;> try (exfalso; omega)) | refine Pick.au ?_ | refine store_au ?_ | refine Any.mk (fun _ => ?_) | refine Both.mk ?_ ?_)); all_goals (try (conv => whnf))
  exact Done.mk ⟨_, List.Sublist.cons_cons _ (List.Sublist.cons_cons _ (by rw [List.append_nil]; repeat (first | exact List.Sublist.refl _ | exact List.nil_sublist _ | refine List.Sublist.append ?_ (List.Sublist.refl _) | refine List.Sublist.cons _ ?_))), ⟨((rd0.num (bytesBits l) 4).toNat : Int), _, _, _, _, 0, _, _, 0, _, ⟨Bk, _, ck⟩, slNil, ⟨Bt, _, ct⟩⟩, _, rfl, rfl, ⟨Ek, [], Et, hOk, Own.none, hOt, rfl⟩, rfl⟩
theorem frame4_m (fp rp : Nat) (A : Option Addr) (l : List B8) (C : Nat) (hl : l.length ≤ 140737488351232) (w : World) (hA : At w A (l.map b8)) (hd : l ≠ [] → ∀ a, A = some a → a.block ∉ [rp, fp]) (hw : St ⟨Tryz.prog, w, [rp, fp]⟩ [rE rp A l.length C rd0.at_, frE fp rp rd0.lost] w) (h1 : rKind (bytesBits l) ≠ 1) (h2' : rKind (bytesBits l) ≠ 2) (h3 : rKind (bytesBits l) ≠ 3) : Mut Tryz.prog 98 [.pointer (some ⟨fp, 0, none⟩)] w [rE rp A l.length C rd0.at_, frE fp rp rd0.lost] fun v hs2 => ∃ H, List.Sublist H hs2 ∧ ReadF (badF (bytesBits l)) rp fp A l.length C v H := by
  have hsk : ∀ (s : Rd) (wd : Nat), s.at_ ≤ 8 * l.length → (s.skip (bytesBits l) wd).at_ ≤ 8 * l.length := fun s wd h => by
    have h2 := Rd.skip_le (bs := bytesBits l) (s := s) (by rw [bytesBits_len]; exact h) wd
    rwa [bytesBits_len] at h2
  have h00 : rd0.at_ ≤ 8 * l.length := by unfold rd0; exact Nat.zero_le _
  unfold rKind at h1 h2' h3
  have hb : ∀ s : Rd, s.at_ ≤ 8 * l.length → (rdLost s).at_ ≤ 8 * l.length := fun s h => by unfold rdLost; exact h
  refine mut_vc tab_ok Tryz.func98 rfl rfl hw ?_
  repeat' ((try (conv => whnf)); (first | (refine Split.mk (fun hsplit => absurd hsplit h1) (fun hsplit => ?_)) | (refine Split.mk (fun hsplit => absurd hsplit h2') (fun hsplit => ?_)) | (refine Split.mk (fun hsplit => absurd hsplit h3) (fun hsplit => ?_)) | (refine Split.mk (fun hsplit => absurd (hk.symm.trans hsplit) (by decide)) (fun hsplit => ?_)) | (refine Split.mk (fun hsplit => ?_) (fun hsplit => absurd hk hsplit)) | refine store_frame ⟨_, _, 0, 0, 0, 0, 0#64, 0, 0, 0, slNil, slNil, slNil⟩ (by repeat (first | exact Upd.head _ | apply Upd.tail)) rfl ?_ | refine store_to (by repeat (first | exact Upd.head _ | apply Upd.tail)) ?_ | refine store_epoch (by repeat (first | exact Upd.head _ | apply Upd.tail)) ?_ | refine store_start (by repeat (first | exact Upd.head _ | apply Upd.tail)) ?_ | refine store_round (by repeat (first | exact Upd.head _ | apply Upd.tail)) ?_ | refine store_nonce (by repeat (first | exact Upd.head _ | apply Upd.tail)) ?_ | refine store_stamp (by repeat (first | exact Upd.head _ | apply Upd.tail)) ?_ | refine store_view (by repeat (first | exact Upd.head _ | apply Upd.tail)) ?_ | refine store_index (by repeat (first | exact Upd.head _ | apply Upd.tail)) ?_ | refine store_key (Rd.row _ _ _) (by repeat (first | exact Upd.head _ | apply Upd.tail)) ?_ | refine store_body (Rd.row _ _ _) (by repeat (first | exact Upd.head _ | apply Upd.tail)) ?_ | refine store_tag (Rd.row _ _ _) (by repeat (first | exact Upd.head _ | apply Upd.tail)) ?_ | refine CallVC.fint l _ 4 rfl hl (by repeat (first | exact Take.head _ | apply Take.tail)) (by repeat (first | exact Take.head _ | apply Take.tail)) (by decide) (by repeat (first | exact h00 | refine hsk _ _ ?_)) (fun w2 h2 => hA.here2 h2 hd) hd ?_ | (refine CallVC.fbytes l (rdLost ((rd0.skip (bytesBits l) 4).skip (bytesBits l) 4)) 8 rfl hl (by unfold rdLost; repeat (first | exact Take.head _ | apply Take.tail)) (by unfold rdLost; repeat (first | exact Take.head _ | apply Take.tail)) (by decide) (hb _ (by repeat (first | exact h00 | refine hsk _ _ ?_))) (fun w2 h2 => hA.here2 h2 hd) hd (fun Bt ct Et hOt => ?_)) | refine Need.au ?_ | (refine Split.mk (fun hsplit => ?_) (fun hsplit => ?_) <;> (try simp only [List.cons.injEq, and_true, true_and, not_true_eq_false, not_false_eq_true] at hsplit) <;> try (exfalso; omega)) | refine Pick.au ?_ | refine store_au ?_ | refine Any.mk (fun _ => ?_) | refine Both.mk ?_ ?_)); all_goals (try (conv => whnf))
  exact Done.mk ⟨_, List.Sublist.cons_cons _ (List.Sublist.cons_cons _ (by repeat (first | exact List.Sublist.refl _ | exact List.nil_sublist _ | refine List.Sublist.append ?_ (List.Sublist.refl _) | refine List.Sublist.cons _ ?_))), ⟨((rd0.num (bytesBits l) 4).toNat : Int), _, 0, 0, 0, 0, 0#64, 0, 0, 0, slNil, slNil, ⟨Bt, _, ct⟩⟩, _, rfl, rfl, ⟨[], [], Et, Own.none, Own.none, hOt, rfl⟩, rfl⟩
theorem frame_m (fp rp : Nat) (A : Option Addr) (l : List B8) (C : Nat) (hl : l.length ≤ 140737488351232) (w : World) (hA : At w A (l.map b8)) (hd : l ≠ [] → ∀ a, A = some a → a.block ∉ [rp, fp]) (hw : St ⟨Tryz.prog, w, [rp, fp]⟩ [rE rp A l.length C rd0.at_, frE fp rp rd0.lost] w) : Mut Tryz.prog 98 [.pointer (some ⟨fp, 0, none⟩)] w [rE rp A l.length C rd0.at_, frE fp rp rd0.lost] fun v hs2 => ∃ H, List.Sublist H hs2 ∧ ReadF (readF (bytesBits l)) rp fp A l.length C v H := by
  unfold readF
  by_cases h1 : rKind (bytesBits l) = 1
  · rw [if_pos h1]; exact frame1_m fp rp A l C hl w hA hd hw h1
  by_cases h2 : rKind (bytesBits l) = 2
  · rw [if_neg h1, if_pos h2]; exact frame2_m fp rp A l C hl w hA hd hw h2
  by_cases h3 : rKind (bytesBits l) = 3
  · rw [if_neg h1, if_neg h2, if_pos h3]; exact frame3_m fp rp A l C hl w hA hd hw h3
  · rw [if_neg h1, if_neg h2, if_neg h3]; exact frame4_m fp rp A l C hl w hA hd hw h1 h2 h3
end
section
set_option linter.unusedVariables false
set_option linter.unusedSimpArgs false
set_option maxRecDepth 100000
set_option maxHeartbeats 8000000
open Go
attribute [local irreducible] bitsOf shlOf shrOf pack numBits numOf bytesBits rowAt
section
variable {G : Cx} {hs : Hp}
theorem CallVC.rgetY {K : Value → Hp → Prop} {rp : Nat} {A : Option Addr} {C p wd : Nat} {r1 : Hp} (l : List B8) (hP : G.P = Tryz.prog) (hl : l.length ≤ 140737488351232) (h1 : Take (qE rp A l.length C p) hs r1) (hwd : wd ≤ 64) (hfit : p + wd ≤ 8 * l.length) (hA : ∀ w, St G hs w → At w A (l.map b8)) (hd : l ≠ [] → ∀ a, A = some a → a.block ∉ [rp])
    (hk : K (.tuple #[w64 (numOf (((bytesBits l).drop p).take wd)), .int .i64 0]) (qE rp A l.length C (p + wd) :: r1)) : CallVC G hs 122 [.pointer (some ⟨rp, 0, none⟩), .int .i64 (wd : Int)] K := by
  refine CallVC.mutT [qE rp A l.length C p] r1 h1.perm (fun w2 h2 h3 => hP ▸ rget_yes rp A l C p wd hl hwd hfit w2 (hA w2 h2) hd (hP ▸ h3)) ?_
  rintro v H ⟨rfl, rfl⟩
  exact hk
theorem CallVC.rgetN {K : Value → Hp → Prop} {rp : Nat} {A : Option Addr} {C p wd : Nat} {r1 : Hp} (l : List B8) (hP : G.P = Tryz.prog) (hl : l.length ≤ 140737488351232) (h1 : Take (qE rp A l.length C p) hs r1) (hwd : wd ≤ 64) (hp : p ≤ 8 * l.length) (hfit : ¬ p + wd ≤ 8 * l.length)
    (hk : K (.tuple #[w64 0#64, .int .i64 3]) (qE rp A l.length C p :: r1)) : CallVC G hs 122 [.pointer (some ⟨rp, 0, none⟩), .int .i64 (wd : Int)] K := by
  refine CallVC.mutT [qE rp A l.length C p] r1 h1.perm (fun w2 h2 h3 => hP ▸ rget_no rp A l C p wd hl hwd hp hfit w2 (hP ▸ h3)) ?_
  rintro v H ⟨rfl, rfl⟩
  exact hk
theorem CallVC.rrowY {K : Value → Hp → Prop} {rp : Nat} {A : Option Addr} {C p n : Nat} {r1 : Hp} (l : List B8) (hP : G.P = Tryz.prog) (hl : l.length ≤ 140737488351232) (h1 : Take (qE rp A l.length C p) hs r1) (hn : n ≤ 1024) (hfit : p + 8 * n ≤ 8 * l.length) (hA : ∀ w, St G hs w → At w A (l.map b8)) (hd : l ≠ [] → ∀ a, A = some a → a.block ∉ [rp])
    (hk : ∀ B c E, Own B (rowAt (bytesBits l) p n) c E → K (.tuple #[.slice B (rowAt (bytesBits l) p n).length c, .int .i64 0]) (qE rp A l.length C (p + 8 * n) :: (r1 ++ E))) : CallVC G hs 152 [.pointer (some ⟨rp, 0, none⟩), .int .i64 (n : Int)] K := by
  refine CallVC.mutP [qE rp A l.length C p] r1 h1.perm (fun w2 h2 h3 => hP ▸ rrdbytes_yes rp A l C p n hl hn hfit w2 (hA w2 h2) hd (hP ▸ h3)) ?_
  rintro v H ⟨B, c, E, rfl, hO, rfl⟩
  refine ⟨_, ?_, hk B c E hO⟩
  rw [List.append_assoc]
  exact List.perm_append_comm.trans (List.Perm.refl _)
theorem CallVC.rrowN {K : Value → Hp → Prop} {rp : Nat} {A : Option Addr} {C p n : Nat} {r1 : Hp} (l : List B8) (hP : G.P = Tryz.prog) (hl : l.length ≤ 140737488351232) (h1 : Take (qE rp A l.length C p) hs r1) (hn : n ≤ 1024) (hp : p ≤ 8 * l.length) (hfit : ¬ p + 8 * n ≤ 8 * l.length)
    (hk : ∀ B c E, Own B [] c E → K (.tuple #[.slice B ([] : List B8).length c, .int .i64 3]) (qE rp A l.length C p :: (r1 ++ E))) : CallVC G hs 152 [.pointer (some ⟨rp, 0, none⟩), .int .i64 (n : Int)] K := by
  refine CallVC.mutP [qE rp A l.length C p] r1 h1.perm (fun w2 h2 h3 => hP ▸ rrdbytes_no rp A l C p n hl hn hp hfit w2 (hP ▸ h3)) ?_
  rintro v H ⟨B, c, E, rfl, hO, rfl⟩
  refine ⟨_, ?_, hk B c E hO⟩
  rw [List.append_assoc]
  exact List.perm_append_comm.trans (List.Perm.refl _)
end
/-- The block of a frame's reader. -/
abbrev grE (fp rp : Nat) (lost : Bool) : Ent := ⟨fp, [.pointer (some ⟨rp, 0, none⟩), .bool lost], 138, (0, 0)⟩
theorem rfnum_m (fp rp : Nat) (A : Option Addr) (l : List B8) (C : Nat) (s : Rd) (wd : Nat) (hl : l.length ≤ 140737488351232) (hwd : wd ≤ 64) (hp : s.at_ ≤ 8 * l.length) (w : World) (hA : At w A (l.map b8)) (hd : l ≠ [] → ∀ a, A = some a → a.block ∉ [rp, fp]) (hw : St ⟨Tryz.prog, w, [rp, fp]⟩ [qE rp A l.length C s.at_, grE fp rp s.lost] w) :
    Mut Tryz.prog 119 [.pointer (some ⟨fp, 0, none⟩), .int .i64 (wd : Int)] w [qE rp A l.length C s.at_, grE fp rp s.lost] fun v hs2 => ∃ H, List.Sublist H hs2 ∧ v = w64 (s.num (bytesBits l) wd) ∧ H = [qE rp A l.length C (s.skip (bytesBits l) wd).at_, grE fp rp (s.skip (bytesBits l) wd).lost] := by
  have hbl := bytesBits_len l
  obtain ⟨p, lost⟩ := s
  dsimp only at hp
  unfold Rd.num Rd.skip
  dsimp only
  rw [hbl]
  by_cases hfit : p + wd ≤ 8 * l.length
  · rw [if_pos hfit, if_pos hfit]
    cases lost
    · refine mut_vc tab_ok Tryz.func119 rfl rfl hw ?_
      repeat' ((try (conv => whnf)); (first | refine CallVC.rgetY l rfl hl (by repeat (first | exact Take.head _ | apply Take.tail)) hwd (by omega) (fun w2 h2 => hA.here2 h2 hd) (not_two hd) ?_ | refine Need.au ?_ | (refine Split.mk (fun hsplit => ?_) (fun hsplit => ?_) <;> (try simp only [List.cons.injEq, and_true, true_and, not_true_eq_false, not_false_eq_true] at hsplit) <;> try (exfalso; omega)) | refine Pick.au ?_ | refine store_au ?_ | refine Any.mk (fun _ => ?_) | refine Both.mk ?_ ?_)); all_goals (try (conv => whnf))
      exact Done.mk ⟨_, List.Sublist.refl _, rfl, rfl⟩
    · refine mut_vc tab_ok Tryz.func119 rfl rfl hw ?_
      repeat' ((try (conv => whnf)); (first | refine CallVC.rgetY l rfl hl (by repeat (first | exact Take.head _ | apply Take.tail)) hwd (by omega) (fun w2 h2 => hA.here2 h2 hd) (not_two hd) ?_ | refine Need.au ?_ | (refine Split.mk (fun hsplit => ?_) (fun hsplit => ?_) <;> (try simp only [List.cons.injEq, and_true, true_and, not_true_eq_false, not_false_eq_true] at hsplit) <;> try (exfalso; omega)) | refine Pick.au ?_ | refine store_au ?_ | refine Any.mk (fun _ => ?_) | refine Both.mk ?_ ?_)); all_goals (try (conv => whnf))
      exact Done.mk ⟨_, List.Sublist.refl _, rfl, rfl⟩
  · rw [if_neg hfit, if_neg hfit]
    cases lost
    · refine mut_vc tab_ok Tryz.func119 rfl rfl hw ?_
      repeat' ((try (conv => whnf)); (first | refine CallVC.rgetN l rfl hl (by repeat (first | exact Take.head _ | apply Take.tail)) hwd hp (by omega) ?_ | refine Need.au ?_ | (refine Split.mk (fun hsplit => ?_) (fun hsplit => ?_) <;> (try simp only [List.cons.injEq, and_true, true_and, not_true_eq_false, not_false_eq_true] at hsplit) <;> try (exfalso; omega)) | refine Pick.au ?_ | refine store_au ?_ | refine Any.mk (fun _ => ?_) | refine Both.mk ?_ ?_)); all_goals (try (conv => whnf))
      exact Done.mk ⟨_, List.Sublist.refl _, rfl, rfl⟩
    · refine mut_vc tab_ok Tryz.func119 rfl rfl hw ?_
      repeat' ((try (conv => whnf)); (first | refine CallVC.rgetN l rfl hl (by repeat (first | exact Take.head _ | apply Take.tail)) hwd hp (by omega) ?_ | refine Need.au ?_ | (refine Split.mk (fun hsplit => ?_) (fun hsplit => ?_) <;> (try simp only [List.cons.injEq, and_true, true_and, not_true_eq_false, not_false_eq_true] at hsplit) <;> try (exfalso; omega)) | refine Pick.au ?_ | refine store_au ?_ | refine Any.mk (fun _ => ?_) | refine Both.mk ?_ ?_)); all_goals (try (conv => whnf))
      exact Done.mk ⟨_, List.Sublist.refl _, rfl, rfl⟩
section
variable {G : Cx} {hs : Hp}
theorem CallVC.rfnum {K : Value → Hp → Prop} {fp rp : Nat} {A : Option Addr} {C wd : Nat} {r1 r2 : Hp} (l : List B8) (s : Rd) (hP : G.P = Tryz.prog) (hl : l.length ≤ 140737488351232) (h1 : Take (qE rp A l.length C s.at_) hs r1) (h2 : Take (grE fp rp s.lost) r1 r2) (hwd : wd ≤ 64) (hp : s.at_ ≤ 8 * l.length) (hA : ∀ w, St G hs w → At w A (l.map b8)) (hd : l ≠ [] → ∀ a, A = some a → a.block ∉ [rp, fp])
    (hk : K (w64 (s.num (bytesBits l) wd)) (qE rp A l.length C (s.skip (bytesBits l) wd).at_ :: grE fp rp (s.skip (bytesBits l) wd).lost :: r2)) : CallVC G hs 119 [.pointer (some ⟨fp, 0, none⟩), .int .i64 (wd : Int)] K := by
  refine CallVC.mutT [qE rp A l.length C s.at_, grE fp rp s.lost] r2 (h1.perm.trans (List.Perm.cons _ h2.perm)) (fun w2 h2 h3 => hP ▸ rfnum_m fp rp A l C s wd hl hwd hp w2 (hA w2 h2) hd (hP ▸ h3)) ?_
  rintro v H ⟨rfl, rfl⟩
  exact hk
end
theorem rfbytes_m (fp rp : Nat) (A : Option Addr) (l : List B8) (C : Nat) (s : Rd) (n : Nat) (hl : l.length ≤ 140737488351232) (hn : n ≤ 1024) (hp : s.at_ ≤ 8 * l.length) (w : World) (hA : At w A (l.map b8)) (hd : l ≠ [] → ∀ a, A = some a → a.block ∉ [rp, fp]) (hw : St ⟨Tryz.prog, w, [rp, fp]⟩ [qE rp A l.length C s.at_, grE fp rp s.lost] w) :
    Mut Tryz.prog 120 [.pointer (some ⟨fp, 0, none⟩), .int .i64 (n : Int)] w [qE rp A l.length C s.at_, grE fp rp s.lost] fun v hs2 => ∃ H, List.Sublist H hs2 ∧ ∃ B c E, v = .slice B (s.row (bytesBits l) n).length c ∧ Own B (s.row (bytesBits l) n) c E ∧ H = qE rp A l.length C (s.skip (bytesBits l) (8 * n)).at_ :: grE fp rp (s.skip (bytesBits l) (8 * n)).lost :: E := by
  have hbl := bytesBits_len l
  obtain ⟨p, lost⟩ := s
  dsimp only at hp
  unfold Rd.row Rd.skip
  dsimp only
  rw [hbl]
  by_cases hfit : p + 8 * n ≤ 8 * l.length
  · rw [if_pos hfit, if_pos hfit]
    cases lost
    · refine mut_vc tab_ok Tryz.func120 rfl rfl hw ?_
      repeat' ((try (conv => whnf)); (first | (refine CallVC.rrowY l rfl hl (by repeat (first | exact Take.head _ | apply Take.tail)) hn (by omega) (fun w2 h2 => hA.here2 h2 hd) (not_two hd) (fun B c E hO => ?_)) | refine Need.au ?_ | (refine Split.mk (fun hsplit => ?_) (fun hsplit => ?_) <;> (try simp only [List.cons.injEq, and_true, true_and, not_true_eq_false, not_false_eq_true] at hsplit) <;> try (exfalso; omega)) | refine Pick.au ?_ | refine store_au ?_ | refine Any.mk (fun _ => ?_) | refine Both.mk ?_ ?_)); all_goals (try (conv => whnf))
      exact Done.mk ⟨_, List.Sublist.refl _, B, c, E, rfl, hO, rfl⟩
    · refine mut_vc tab_ok Tryz.func120 rfl rfl hw ?_
      repeat' ((try (conv => whnf)); (first | (refine CallVC.rrowY l rfl hl (by repeat (first | exact Take.head _ | apply Take.tail)) hn (by omega) (fun w2 h2 => hA.here2 h2 hd) (not_two hd) (fun B c E hO => ?_)) | refine Need.au ?_ | (refine Split.mk (fun hsplit => ?_) (fun hsplit => ?_) <;> (try simp only [List.cons.injEq, and_true, true_and, not_true_eq_false, not_false_eq_true] at hsplit) <;> try (exfalso; omega)) | refine Pick.au ?_ | refine store_au ?_ | refine Any.mk (fun _ => ?_) | refine Both.mk ?_ ?_)); all_goals (try (conv => whnf))
      exact Done.mk ⟨_, List.Sublist.refl _, B, c, E, rfl, hO, rfl⟩
  · rw [if_neg hfit, if_neg hfit]
    cases lost
    · refine mut_vc tab_ok Tryz.func120 rfl rfl hw ?_
      repeat' ((try (conv => whnf)); (first | (refine CallVC.rrowN l rfl hl (by repeat (first | exact Take.head _ | apply Take.tail)) hn hp (by omega) (fun B c E hO => ?_)) | refine Need.au ?_ | (refine Split.mk (fun hsplit => ?_) (fun hsplit => ?_) <;> (try simp only [List.cons.injEq, and_true, true_and, not_true_eq_false, not_false_eq_true] at hsplit) <;> try (exfalso; omega)) | refine Pick.au ?_ | refine store_au ?_ | refine Any.mk (fun _ => ?_) | refine Both.mk ?_ ?_)); all_goals (try (conv => whnf))
      exact Done.mk ⟨_, List.Sublist.refl _, B, c, E, rfl, hO, rfl⟩
    · refine mut_vc tab_ok Tryz.func120 rfl rfl hw ?_
      repeat' ((try (conv => whnf)); (first | (refine CallVC.rrowN l rfl hl (by repeat (first | exact Take.head _ | apply Take.tail)) hn hp (by omega) (fun B c E hO => ?_)) | refine Need.au ?_ | (refine Split.mk (fun hsplit => ?_) (fun hsplit => ?_) <;> (try simp only [List.cons.injEq, and_true, true_and, not_true_eq_false, not_false_eq_true] at hsplit) <;> try (exfalso; omega)) | refine Pick.au ?_ | refine store_au ?_ | refine Any.mk (fun _ => ?_) | refine Both.mk ?_ ?_)); all_goals (try (conv => whnf))
      exact Done.mk ⟨_, List.Sublist.refl _, B, c, E, rfl, hO, rfl⟩
section
variable {G : Cx} {hs : Hp}
theorem CallVC.rfbytes {K : Value → Hp → Prop} {fp rp : Nat} {A : Option Addr} {C : Nat} {r1 r2 : Hp} (l : List B8) (s : Rd) (n : Nat) (hP : G.P = Tryz.prog) (hl : l.length ≤ 140737488351232) (h1 : Take (qE rp A l.length C s.at_) hs r1) (h2 : Take (grE fp rp s.lost) r1 r2) (hn : n ≤ 1024) (hp : s.at_ ≤ 8 * l.length) (hA : ∀ w, St G hs w → At w A (l.map b8)) (hd : l ≠ [] → ∀ a, A = some a → a.block ∉ [rp, fp])
    (hk : ∀ B c E, Own B (s.row (bytesBits l) n) c E → K (.slice B (s.row (bytesBits l) n).length c) (qE rp A l.length C (s.skip (bytesBits l) (8 * n)).at_ :: grE fp rp (s.skip (bytesBits l) (8 * n)).lost :: (r2 ++ E))) : CallVC G hs 120 [.pointer (some ⟨fp, 0, none⟩), .int .i64 (n : Int)] K := by
  refine CallVC.mutP [qE rp A l.length C s.at_, grE fp rp s.lost] r2 (h1.perm.trans (List.Perm.cons _ h2.perm)) (fun w2 h2 h3 => hP ▸ rfbytes_m fp rp A l C s n hl hn hp w2 (hA w2 h2) hd (hP ▸ h3)) ?_
  rintro v H ⟨B, c, E, rfl, hO, rfl⟩
  exact ⟨_, List.Perm.cons _ (List.Perm.cons _ List.perm_append_comm), hk B c E hO⟩
end
theorem num_fit (bs : List Bool) (s : Rd) (wd : Nat) (h : wd ≤ 63) : ((s.num bs wd).toNat : Int) = IntKind.i64.wrap ((s.num bs wd).toNat : Int) := by
  have hlt := Rd.num_lt bs s wd (by omega)
  have h63 : 2 ^ wd ≤ 2 ^ 63 := Nat.pow_le_pow_right (by decide) h
  exact fit_i64 (by omega) (by omega)
section
variable {G : Cx} {hs hs' : Hp} {b : Nat} {K : Hp → Prop}
variable {x0 x1 x2 x3 x4 x5 x7 x8 x9 : Int} {x6 : BitVec 64} {x10 x11 x12 : Sl}
theorem store_kind {v : Int} (hu : Upd (eF b ⟨x0, x1, x2, x3, x4, x5, x6, x7, x8, x9, x10, x11, x12⟩) (eF b ⟨v, x1, x2, x3, x4, x5, x6, x7, x8, x9, x10, x11, x12⟩) hs hs') (h : K hs') : StoreVC G hs ⟨b, 0, none⟩ [.int .i64 v] K :=
  StoreVC.at_ (t := 25) (fr := (0, 0)) hu soft0 rfl (by show 0 + 1 ≤ 13; omega) h
theorem store_frm {v : Int} (hu : Upd (eF b ⟨x0, x1, x2, x3, x4, x5, x6, x7, x8, x9, x10, x11, x12⟩) (eF b ⟨x0, v, x2, x3, x4, x5, x6, x7, x8, x9, x10, x11, x12⟩) hs hs') (h : K hs') : StoreVC G hs ⟨b, 1, none⟩ [.int .i64 v] K :=
  StoreVC.at_ (t := 25) (fr := (0, 0)) hu soft0 rfl (by show 1 + 1 ≤ 13; omega) h
end
end
end Go.Proofs.YtnlheljpagpiiaaGreat
