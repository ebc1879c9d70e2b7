/-
  Tags of bytes, whole and in part; whether bytes are a tag's first; in the program and in the document; every input. Bytes held against bytes as texts; whether bytes are a tag's first, in the document; the check of the laws; every input.
-/
import Derived.Test.YtnlheljpagpiiaaGreatSl
namespace Go.Proofs.YtnlheljpagpiiaaGreat
section
set_option linter.unusedVariables false
set_option linter.unusedSimpArgs false
set_option maxRecDepth 100000
set_option maxHeartbeats 4000000
open Go
attribute [local irreducible] bitsOf shlOf shrOf

theorem ne_of_two {G : Cx} {a b : Ent} {r : Hp} {w : World} (h : St G (a :: b :: r) w) : b.b ≠ a.b := by
  have := h.nodup
  simp only [List.map_cons, List.nodup_cons, List.mem_cons, not_or] at this
  exact fun e => this.1.1 e.symm
theorem at_ent {G : Cx} {hs : Hp} {b : Nat} {cs : List Value} {t : TypeId} {fr : Nat × Nat} {w : World} (hm : (⟨b, cs, t, fr⟩ : Ent) ∈ hs) (hw : St G hs w) : At w (some ⟨b, 0, none⟩) cs := at_own (off := 0) hm hw (fun i v hv => by rw [Nat.zero_add]; exact hv)
theorem mac_of_r (A : Option Addr) (key : List B8) (ck : Nat) (B : Option Addr) (bs : List B8) (cb : Nat) (hk : key.length ≤ 1048576) (hck : key.length ≤ ck) (hb : bs.length ≤ 1048512) (hcb : bs.length ≤ cb) (w : World) (hA : At w A (key.map b8)) (hB : At w B (bs.map b8)) :
    Ret Tryz.prog 75 [.slice A key.length ck, .slice B bs.length cb] w (GivesE 5 ((hmac key bs).map b8) (.int .i64 0)) := by
  have hpl := padOf_len key 0x36
  refine ret_vc tab_ok Tryz.func75 rfl rfl ?_
  repeat' ((try (conv => whnf)); (first | (refine CallVC.newMac rfl hk hck (fun w2 h2 => hA.here h2 (fun _ _ => by simp)) (fun mp p b r fr A' c hc => ?_)) | (refine CallVC.wroteF (bs := bs) [_, _] (List.Perm.refl _) (fun w2 _ => by rw [rest_pad]; exact At.nil) (fun w2 h2 h3 => macwrite_m mp p _ (ne_of_two h2) _ _ _ A' c B bs cb (by rw [hpl]; omega) (rest_lt _) hc hcb w2 (at_ent (by repeat (first | exact List.Mem.head _ | refine List.Mem.tail _ ?_)) h2) h3 (by rw [rest_pad]; exact At.nil) (hB.here h2 (fun _ _ => by simp))) (fun A2 c2 L hc2 hL => ?_)) | (refine CallVC.givesEB (fun w2 h2 => macsum_r mp p key (padOf key 0x36 ++ bs) _ _ A2 c2 (by rw [List.length_append, hpl]; omega) w2 (at_ent (by repeat (first | exact List.Mem.head _ | refine List.Mem.tail _ ?_)) h2) (at_ent (by repeat (first | exact List.Mem.head _ | refine List.Mem.tail _ ?_)) h2) (hL w2 (h2.sub (List.sublist_cons_self _ _))) (at_pre (by repeat (first | exact List.Mem.head _ | refine List.Mem.tail _ ?_)) h2)) (fun b6 r6 fr6 hf6 => ?_)) | refine Need.au ?_ | (refine Split.mk (fun hsplit => ?_) (fun hsplit => ?_) <;> (try simp only [List.cons.injEq, and_true, true_and, not_true_eq_false, not_false_eq_true] at hsplit) <;> try (exfalso; omega)) | refine Pick.au ?_ | refine store_au ?_ | refine Any.mk (fun _ => ?_) | refine Both.mk ?_ ?_)); all_goals (try (conv => whnf))
  rw [hmac]
  exact Done.mk ⟨_, rfl, Gives.mk (by repeat (first | exact List.Mem.head _ | refine List.Mem.tail _ ?_)) (by rw [List.length_map]) rfl hf6⟩
theorem rmac_of_r (A : Option Addr) (key : List B8) (ck : Nat) (B : Option Addr) (bs : List B8) (cb : Nat) (hk : key.length ≤ 1048576) (hck : key.length ≤ ck) (hb : bs.length ≤ 1048512) (hcb : bs.length ≤ cb) (w : World) (hA : At w A (key.map b8)) (hB : At w B (bs.map b8)) :
    Ret Tryz.prog 79 [.slice A key.length ck, .slice B bs.length cb] w (GivesE 5 ((hmac key bs).map b8) (.int .i64 0)) := by
  have hp1 := padOf_len key 0x36
  have hp2 := padOf_len key 0x5C
  refine ret_vc tab_ok Tryz.func79 rfl rfl ?_
  repeat' ((try (conv => whnf)); (first | refine CallVC.givesB (fun w2 h2 => rpad_r A key ck 0x36 hk w2 (hA.here h2 (fun _ _ => by simp))) (fun b1 r1 fr1 hf1 => ?_) | refine CallVC.givesB (fun w2 h2 => rpad_r A key ck 0x5C hk w2 (hA.here h2 (fun _ _ => by simp))) (fun b2 r2 fr2 hf2 => ?_) | (refine AppendVC.bytes (xs := padOf key 0x36) (ys := bs) tab_ok apb rfl (by repeat (first | exact Take.head _ | apply Take.tail)) hf1 rfl rfl (Holds.at (by simp) hB (by simp)) (by show (2 * (_ + _) + 192) * 1 ≤ _; omega) (fun b5 r5 fr5 hf5 => ?_)) | (refine CallVC.eqv (by rw [← List.length_append]) (CallVC.givesEB (fun w2 h2 => rof_r _ (padOf key 0x36 ++ bs) _ (by rw [List.length_append]; omega) w2 (at_pre (by repeat (first | exact List.Mem.head _ | refine List.Mem.tail _ ?_)) h2)) (fun b6 r6 fr6 hf6 => ?_))) | (refine AppendVC.bytes (xs := padOf key 0x5C) (ys := sha (padOf key 0x36 ++ bs)) tab_ok apb rfl (by repeat (first | exact Take.head _ | apply Take.tail)) hf2 rfl rfl (Holds.own (by repeat (first | exact List.Mem.head _ | refine List.Mem.tail _ ?_)) 0 (by rw [List.drop_zero, ← List.length_map (f := b8), List.take_left]) (by simp)) (by rw [sha_len]; show (2 * (_ + _) + 192) * 1 ≤ _; omega) (fun b7 r7 fr7 hf7 => ?_)) | (refine CallVC.eqv (by rw [← List.length_append]) (CallVC.givesEB (fun w2 h2 => rof_r _ (padOf key 0x5C ++ sha (padOf key 0x36 ++ bs)) _ (by rw [List.length_append, sha_len]; omega) w2 (at_pre (by repeat (first | exact List.Mem.head _ | refine List.Mem.tail _ ?_)) h2)) (fun b8_ r8 fr8 hf8 => ?_))) | refine Need.au ?_ | (refine Split.mk (fun hsplit => ?_) (fun hsplit => ?_) <;> (try simp only [List.cons.injEq, and_true, true_and, not_true_eq_false, not_false_eq_true] at hsplit) <;> try (exfalso; omega)) | refine Pick.au ?_ | refine store_au ?_ | refine Any.mk (fun _ => ?_) | refine Both.mk ?_ ?_)); all_goals (try (conv => whnf))
  rw [hmac]
  exact Done.mk ⟨_, rfl, Gives.mk (by repeat (first | exact List.Mem.head _ | refine List.Mem.tail _ ?_)) (by rw [List.length_map]) rfl hf8⟩
/-- A row that may have more room. -/
structure GivesL (xs : List B8) (v : Value) (hs : Hp) : Prop where wrap ::
  raw : ∃ (b c : Nat) (r : List Value) (fr : Nat × Nat), v = .tuple #[.slice (some ⟨b, 0, none⟩) xs.length c, .int .i64 0] ∧ xs.length ≤ c ∧ (⟨b, xs.map b8 ++ r, 5, fr⟩ : Ent) ∈ hs ∧ Soft fr (xs.map b8 ++ r).length
theorem CallVC.givesL {G : Cx} {hs : Hp} {f : Nat} {args : List Value} {K : Value → Hp → Prop} {xs : List B8} (hc : ∀ w, St G hs w → Ret G.P f args w (GivesL xs))
    (hk : ∀ b c r fr, xs.length ≤ c → K (.tuple #[.slice (some ⟨b, 0, none⟩) xs.length c, .int .i64 0]) (⟨b, xs.map b8 ++ r, 5, fr⟩ :: hs)) : CallVC G hs f args K :=
  CallVC.ofW hc fun v hs2 ⟨b, c, r, fr, hv, hl, hm, _⟩ => ⟨[⟨b, xs.map b8 ++ r, 5, fr⟩], List.singleton_sublist.2 hm, by subst hv; exact hk b c r fr hl⟩
theorem CallVC.givesLS {G : Cx} {hs : Hp} {f : Nat} {args : List Value} {K : Value → Hp → Prop} {xs : List B8} (hc : ∀ w, St G hs w → Ret G.P f args w (GivesL xs))
    (hk : ∀ b c r fr, xs.length ≤ c → Soft fr (xs.map b8 ++ r).length → K (.tuple #[.slice (some ⟨b, 0, none⟩) xs.length c, .int .i64 0]) (⟨b, xs.map b8 ++ r, 5, fr⟩ :: hs)) : CallVC G hs f args K :=
  CallVC.ofW hc fun v hs2 ⟨b, c, r, fr, hv, hl, hm, hf⟩ => ⟨[⟨b, xs.map b8 ++ r, 5, fr⟩], List.singleton_sublist.2 hm, by subst hv; exact hk b c r fr hl hf⟩
theorem take_row (xs : List B8) (n : Nat) (r : List Value) : xs.map b8 ++ r = (xs.take n).map b8 ++ ((xs.drop n).map b8 ++ r) := by
  rw [← List.append_assoc, ← List.map_append, List.take_append_drop]
theorem short_r (A : Option Addr) (key : List B8) (ck : Nat) (B : Option Addr) (bs : List B8) (cb : Nat) (n : Int) (hk : key.length ≤ 1048576) (hck : key.length ≤ ck) (hb : bs.length ≤ 1048512) (hcb : bs.length ≤ cb) (hn : 1 ≤ n ∧ n ≤ 32) (w : World) (hA : At w A (key.map b8)) (hB : At w B (bs.map b8)) :
    Ret Tryz.prog 43 [.slice A key.length ck, .slice B bs.length cb, .int .i64 n] w (GivesL ((hmac key bs).take n.toNat)) := by
  have hl := hmac_len key bs
  obtain ⟨n1, n2⟩ := hn
  refine ret_vc tab_ok Tryz.func43 rfl rfl ?_
  repeat' ((try (conv => whnf)); (first | refine CallVC.givesEB (fun w2 h2 => mac_of_r A key ck B bs cb hk hck hb hcb w2 (hA.here h2 (fun _ _ => by simp)) (hB.here h2 (fun _ _ => by simp))) (fun b1 r1 fr1 hf1 => ?_) | refine Need.mk (by rw [List.length_append, List.length_map]; omega) ?_ | refine Need.au ?_ | (refine Split.mk (fun hsplit => ?_) (fun hsplit => ?_) <;> (try simp only [List.cons.injEq, and_true, true_and, not_true_eq_false, not_false_eq_true] at hsplit) <;> try (exfalso; omega)) | refine Pick.au ?_ | refine store_au ?_ | refine Any.mk (fun _ => ?_) | refine Both.mk ?_ ?_)); all_goals (try (conv => whnf))
  rw [slice_cut0]
  refine Done.mk ⟨b1, n.toNat, (((hmac key bs).drop n.toNat).map b8 ++ r1), fr1, ?_, ?_, ?_, by rw [← take_row]; exact hf1⟩
  · rw [List.length_take, Nat.min_eq_left (by omega)]; rfl
  · rw [List.length_take]; omega
  · rw [← take_row]; exact List.Mem.head _
theorem rshort_r (A : Option Addr) (key : List B8) (ck : Nat) (B : Option Addr) (bs : List B8) (cb : Nat) (n : Int) (hk : key.length ≤ 1048576) (hck : key.length ≤ ck) (hb : bs.length ≤ 1048512) (hcb : bs.length ≤ cb) (hn : 1 ≤ n ∧ n ≤ 32) (w : World) (hA : At w A (key.map b8)) (hB : At w B (bs.map b8)) :
    Ret Tryz.prog 46 [.slice A key.length ck, .slice B bs.length cb, .int .i64 n] w (GivesL ((hmac key bs).take n.toNat)) := by
  have hl := hmac_len key bs
  obtain ⟨n1, n2⟩ := hn
  refine ret_vc tab_ok Tryz.func46 rfl rfl ?_
  repeat' ((try (conv => whnf)); (first | refine CallVC.givesEB (fun w2 h2 => rmac_of_r A key ck B bs cb hk hck hb hcb w2 (hA.here h2 (fun _ _ => by simp)) (hB.here h2 (fun _ _ => by simp))) (fun b1 r1 fr1 hf1 => ?_) | refine Need.mk (by rw [List.length_append, List.length_map]; omega) ?_ | refine Need.au ?_ | (refine Split.mk (fun hsplit => ?_) (fun hsplit => ?_) <;> (try simp only [List.cons.injEq, and_true, true_and, not_true_eq_false, not_false_eq_true] at hsplit) <;> try (exfalso; omega)) | refine Pick.au ?_ | refine store_au ?_ | refine Any.mk (fun _ => ?_) | refine Both.mk ?_ ?_)); all_goals (try (conv => whnf))
  rw [slice_cut0]
  refine Done.mk ⟨b1, ((hmac key bs).map b8 ++ r1).length, (((hmac key bs).drop n.toNat).map b8 ++ r1), fr1, ?_, ?_, ?_, by rw [← take_row]; exact hf1⟩
  · rw [List.length_take, Nat.min_eq_left (by omega)]; rfl
  · rw [List.length_take, List.length_append, List.length_map]; omega
  · rw [← take_row]; exact List.Mem.head _
def noRow (e : Int) : Value := .tuple #[.slice none 0 0, .int .i64 e]
theorem short_no (u v : Value) (n : Int) (hn : ¬ (1 ≤ n ∧ n ≤ 32)) (w : World) : Val Tryz.prog 43 [u, v, .int .i64 n] w (noRow 1) := by
  refine val_vc tab_ok Tryz.func43 rfl rfl ?_
  repeat' ((try (conv => whnf)); (first | refine Need.au ?_ | (refine Split.mk (fun hsplit => ?_) (fun hsplit => ?_) <;> (try simp only [List.cons.injEq, and_true, true_and, not_true_eq_false, not_false_eq_true] at hsplit) <;> try (exfalso; omega)) | refine Pick.au ?_ | refine store_au ?_ | refine Any.mk (fun _ => ?_) | refine Both.mk ?_ ?_)); all_goals (try (conv => whnf))
  all_goals exact Done.mk rfl
theorem rshort_no (u v : Value) (n : Int) (hn : ¬ (1 ≤ n ∧ n ≤ 32)) (w : World) : Val Tryz.prog 46 [u, v, .int .i64 n] w (noRow 1) := by
  refine val_vc tab_ok Tryz.func46 rfl rfl ?_
  repeat' ((try (conv => whnf)); (first | refine Need.au ?_ | (refine Split.mk (fun hsplit => ?_) (fun hsplit => ?_) <;> (try simp only [List.cons.injEq, and_true, true_and, not_true_eq_false, not_false_eq_true] at hsplit) <;> try (exfalso; omega)) | refine Pick.au ?_ | refine store_au ?_ | refine Any.mk (fun _ => ?_) | refine Both.mk ?_ ?_)); all_goals (try (conv => whnf))
  all_goals exact Done.mk rfl
theorem or_zero (a b : B8) : a ||| b = 0 ↔ a = 0 ∧ b = 0 := by
  constructor
  · intro h
    constructor <;>
    · apply BitVec.eq_of_getLsbD_eq
      intro i hi
      have := congrArg (fun x => BitVec.getLsbD x i) h
      simp only [BitVec.getLsbD_or] at this
      simp at this ⊢
      simp [this]
  · rintro ⟨rfl, rfl⟩; rfl
theorem xor_zero (a b : B8) : a ^^^ b = 0 ↔ a = b := by
  constructor
  · intro h
    apply BitVec.eq_of_getLsbD_eq
    intro i hi
    have := congrArg (fun x => BitVec.getLsbD x i) h
    simp only [BitVec.getLsbD_xor] at this
    simpa using this
  · rintro rfl; simp
theorem same_step (xs ys : List B8) (i : Nat) (acc : B8) (h1 : i < xs.length) (h2 : i < ys.length) (h : acc = 0 ↔ xs.take i = ys.take i) : acc ||| (xs.getD i 0 ^^^ ys.getD i 0) = 0 ↔ xs.take (i + 1) = ys.take (i + 1) := by
  rw [or_zero, xor_zero, h, take_step _ _ h1, take_step _ _ h2, List.getD_eq_getElem?_getD, List.getD_eq_getElem?_getD, List.getElem?_eq_getElem h1, List.getElem?_eq_getElem h2]
  constructor
  · rintro ⟨a, b⟩
    rw [a]; congr 2
  · intro e
    have := List.append_inj e (by simp; omega)
    exact ⟨this.1, by simpa using this.2⟩
theorem same_v (a b : Addr) (xs ys : List B8) (ca cb : Nat) (hb : xs.length ≤ 1000000) (w : World) (hA : At w (some a) (xs.map b8)) (hB : At w (some b) (ys.map b8)) :
    Val Tryz.prog 48 [.slice (some a) xs.length ca, .slice (some b) ys.length cb] w (.bool (decide (xs = ys))) := by
  refine val_vc tab_ok Tryz.func48 rfl rfl ?_
  repeat' ((try (conv => whnf)); (first | refine Pick.mk pl48_7 (by decide +kernel) ?_ | refine Need.au ?_ | (refine Split.mk (fun hsplit => ?_) (fun hsplit => ?_) <;> (try simp only [List.cons.injEq, and_true, true_and, not_true_eq_false, not_false_eq_true] at hsplit) <;> try (exfalso; omega)) | refine Pick.au ?_ | refine store_au ?_ | refine Any.mk (fun _ => ?_) | refine Both.mk ?_ ?_)); all_goals (try (conv => whnf))
  · have hl : xs.length = ys.length := by omega
    refine LoopVC.mk (fun n env hs => ∃ (i : Nat) (x : Int) (acc : B8), x = i ∧ i + n = xs.length ∧ (acc = 0 ↔ xs.take i = ys.take i) ∧
      env = [(0, .slice (some a) xs.length ca), (1, .slice (some b) ys.length cb), (5, b8 acc), (13, .int .i64 xs.length), (14, .int .i64 x)] ∧ hs = []) xs.length
      (Weak.mk (Sub.cons rfl (Sub.cons rfl (Sub.cons rfl (Sub.cons rfl (Sub.cons rfl Sub.nil))))) (List.Sublist.refl _) ⟨0, 0, 0, rfl, by omega, by simp, rfl, rfl⟩) ?_
    rintro n env hs ⟨i, _, acc, rfl, hi, hacc, rfl, rfl⟩
    repeat' ((try (conv => whnf)); (first | refine Pick.mk _ (cell_arg hA (by simp) (by omega)) ?_ | refine Pick.mk _ (cell_arg hB (by simp) (by omega)) ?_ | refine Pick.mk _ (xor_u8 _ _) ?_ | refine Pick.mk _ (or_u8 _ _) ?_ | refine Pick.mk pl48_7 (by decide +kernel) ?_ | refine Need.au ?_ | (refine Split.mk (fun hsplit => ?_) (fun hsplit => ?_) <;> (try simp only [List.cons.injEq, and_true, true_and, not_true_eq_false, not_false_eq_true] at hsplit) <;> try (exfalso; omega)) | refine Pick.au ?_ | refine store_au ?_ | refine Any.mk (fun _ => ?_) | refine Both.mk ?_ ?_)); all_goals (try (conv => whnf))
    · refine again (n - 1) (by omega) (Sub.cons rfl (Sub.cons rfl (Sub.cons rfl (Sub.cons rfl (Sub.cons rfl Sub.nil))))) (List.Sublist.refl _) ⟨i + 1, _, acc ||| (xs.getD i 0 ^^^ ys.getD i 0), by omega, by omega, same_step _ _ _ _ (by omega) (by omega) hacc, rfl, rfl⟩
    · have h0 : acc = 0 := BitVec.eq_of_toNat_eq (by have : ((acc.toNat : Nat) : Int) = 0 := by assumption
                                                     simpa using this)
      have := hacc.1 h0
      rw [List.take_of_length_le (by omega), List.take_of_length_le (by omega)] at this
      rw [decide_eq_true this]
      exact Done.mk rfl
    · have h0 : ¬ acc = 0 := fun h => by
        have : ¬ ((acc.toNat : Nat) : Int) = 0 := by assumption
        exact this (by rw [h]; rfl)
      have : ¬ xs = ys := fun h => h0 (hacc.2 (by rw [h]))
      rw [decide_eq_false this]
      exact Done.mk rfl
  · have : ¬ xs = ys := fun h => by
      have h2 : ¬ ((xs.length : Nat) : Int) = (ys.length : Int) := by assumption
      exact h2 (by rw [h])
    rw [decide_eq_false this]
    exact Done.mk rfl
/-- Are bytes the first of a tag? -/
def isTag (key bs tag : List B8) : Bool := decide (4 ≤ tag.length ∧ tag.length ≤ 32 ∧ (hmac key bs).take tag.length = tag)
end
section
set_option linter.unusedVariables false
set_option linter.unusedSimpArgs false
set_option maxRecDepth 100000
set_option maxHeartbeats 4000000
open Go
attribute [local irreducible] bitsOf shlOf shrOf

/-- Bytes as numbers. -/
def nums (l : List B8) : List Int := l.map fun x => (x.toNat : Int)
theorem bytesOf_nums (l : List B8) : bytesOf (nums l) = l.map b8 := by simp [bytesOf, nums]
theorem str_eq (l l' : List B8) : (strOf (nums l)).toList = (strOf (nums l')).toList ↔ l = l' := by
  rw [ByteArray.toList_eq, ByteArray.toList_eq]
  constructor
  · intro h
    simp only [strOf, nums, List.map_map] at h
    have inj : Function.Injective ((fun x : Int => UInt8.ofNat x.toNat) ∘ fun x : B8 => (x.toNat : Int)) := by
      intro a b hab
      have := congrArg UInt8.toNat hab
      simp only [Function.comp, Int.toNat_natCast, UInt8.toNat_ofNat'] at this
      apply BitVec.eq_of_toNat_eq
      have ha := a.isLt
      have hb := b.isLt
      omega
    exact (List.map_inj_right fun a b hab => inj hab).1 h
  · rintro rfl; rfl
section
variable {G : Cx} {hs : Hp}
theorem conv_own {b n : Nat} {l : List B8} {r : List Value} {t : TypeId} {fr : Nat × Nat} (hm : (⟨b, l.map b8 ++ r, t, fr⟩ : Ent) ∈ hs) (hn : l.length = n) : (nums l).length = n ∧ (0 < n → ∃ ad, (some ⟨b, 0, none⟩ : Option Addr) = some ad ∧ G.cellsAre hs ad (bytesOf (nums l))) := by
  refine ⟨by simpa [nums] using hn, fun _ => ⟨_, rfl, ?_⟩⟩
  rw [bytesOf_nums]
  exact cellsAre_at hm fun i v hv => by rw [Nat.zero_add, List.getElem?_append_left (List.getElem?_eq_some_iff.1 hv).1]; exact hv
theorem conv_arg {A : Option Addr} {n : Nat} {l : List B8} (h : At G.w0 A (l.map b8)) (hd : ∀ a, A = some a → a.block ∉ G.fp) (hn : l.length = n) : (nums l).length = n ∧ (0 < n → ∃ ad, A = some ad ∧ G.cellsAre hs ad (bytesOf (nums l))) := by
  refine ⟨by simpa [nums] using hn, fun h0 => ?_⟩
  obtain ⟨a, rfl⟩ := h.is (by simp; omega)
  refine ⟨a, rfl, ?_⟩
  rw [bytesOf_nums]
  exact cellsAre_of_at rfl h (hd a rfl)
theorem conv_nil {A : Option Addr} : (nums []).length = 0 ∧ (0 < 0 → ∃ ad, A = some ad ∧ G.cellsAre hs ad (bytesOf (nums []))) := ⟨rfl, fun h => absurd h (Nat.lt_irrefl 0)⟩
end
end
end Go.Proofs.YtnlheljpagpiiaaGreat
