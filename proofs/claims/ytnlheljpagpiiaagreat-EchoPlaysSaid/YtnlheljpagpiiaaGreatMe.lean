/-
  Calls that change blocks handed to them; rows of cells in a world. The digest and the tag as functions of bytes, and what is known of them: no program in sight. Bytes and words as cells; rows that a call makes. Calls that hand back rows of bytes. Rows cut; what is known of blocks that a call reads. A range over a function: the loop from its round and its iterator; an iterator from its walk. A function with a range over a function, and an iterator: pieces of their walks joined.
-/
import Derived.Test.YtnlheljpagpiiaaGreatMd
import Derived.RangeFuncLeaves
import Derived.RangeFuncRecord
import Derived.RangeFuncIn
import Derived.Below
namespace Go.Proofs.YtnlheljpagpiiaaGreat
section
set_option linter.unusedVariables false
set_option linter.unusedSimpArgs false
open Go
variable {G : Cx} {T : Tab} {hs : Hp}

/-- The blocks of entries. -/
abbrev ids (hs : Hp) : List Nat := hs.map (·.b)
/-- A call that may change the blocks of the entries 'pre', known at its begin. -/
structure Mut (P : Program) (f : Nat) (args : List Value) (w : World) (pre : Hp) (R : Value → Hp → Prop) : Prop where wrap ::
  calls : Calls P f args.toArray w (Post ⟨P, w, ids pre⟩ R)
theorem mut_vc {P : Program} {f : Nat} {fn : Func} {c : Code} {args : List Value} {w : World} {pre : Hp} {K : Value → Hp → Prop} (hT : TabOK P T) (hfn : P.funcs[f]? = some fn) (hb : fn.body = some c)
    (hn : Nat.ble args.length fn.ntmps = true) (hw : St ⟨P, w, ids pre⟩ pre w)
    (h : codeVC ⟨P, w, ids pre⟩ T fn.ntmps c (mkEnv args 0) pre (retK ⟨P, w, ids pre⟩ T fn.results.toList fun v hs => Done (K v hs)) (fun _ _ _ => False) (retK ⟨P, w, ids pre⟩ T fn.results.toList fun v hs => Done (K v hs))) :
    Mut P f args w pre K :=
  ⟨calls_vc rfl hT hfn hb hn hw h⟩
theorem St.only {w : World} {pre rest : Hp} (h : St G hs w) (hp : hs.Perm (pre ++ rest)) : St ⟨G.P, w, ids pre⟩ pre w := by
  have h' := h.perm hp
  exact ⟨rfl, rfl, rfl, Nat.le_refl _, fun _ _ _ => rfl, fun e he => h'.own e (List.mem_append_left _ he), (List.nodup_append.1 (by simpa using h'.nodup)).1, fun e he => .inr (List.mem_map_of_mem he)⟩
theorem St.transM {w w' : World} {pre rest hs2 : Hp} (h : St G hs w) (hp : hs.Perm (pre ++ rest)) (h2 : St ⟨G.P, w, ids pre⟩ hs2 w') : St G (hs2 ++ rest) w' := by
  have h' := h.perm hp
  have hn : (ids pre ++ ids rest).Nodup := by simpa using h'.nodup
  obtain ⟨hn1, hn2, hn3⟩ := List.nodup_append.1 hn
  refine ⟨h2.os.trans h.os, h2.tape.trans h.tape, h2.output.trans h.output, Nat.le_trans h.size h2.size, ?_, ?_, ?_, ?_⟩
  · intro b hb hf
    rw [← h.old b hb hf]
    refine h2.old b (Nat.lt_of_lt_of_le hb h.size) (fun hm => ?_)
    obtain ⟨e, he, rfl⟩ := List.mem_map.1 hm
    rcases h'.new e (List.mem_append_left _ he) with h1 | h1
    · omega
    · exact hf h1
  · intro e he
    rcases List.mem_append.1 he with he | he
    · exact h2.own e he
    · have hm := List.mem_append_right pre he
      rw [← h'.own e hm]
      refine h2.old e.b (h'.lt hm) (fun hx => ?_)
      exact hn3 _ hx _ (List.mem_map_of_mem he) rfl
  · rw [List.map_append]
    refine List.nodup_append.2 ⟨h2.nodup, hn2, fun a ha b hb hab => ?_⟩
    obtain ⟨e, he, rfl⟩ := List.mem_map.1 ha
    obtain ⟨e', he', rfl⟩ := List.mem_map.1 hb
    have hm := List.mem_append_right pre he'
    rcases h2.new e he with h1 | h1
    · have := h'.lt hm
      have : w.heap.size ≤ e.b := h1
      omega
    · exact hn3 _ h1 _ (List.mem_map_of_mem he') hab
  · intro e he
    rcases List.mem_append.1 he with he | he
    · rcases h2.new e he with h1 | h1
      · exact .inl (Nat.le_trans h.size h1)
      · obtain ⟨e', he', hb⟩ := List.mem_map.1 h1
        rw [← hb]
        exact h'.new e' (List.mem_append_left _ he')
    · exact h'.new e (List.mem_append_right _ he)
/-- A callee that changes what it is handed. -/
theorem CallVC.mut {f : Nat} {args : List Value} {K R : Value → Hp → Prop} (pre rest : Hp) (hp : hs.Perm (pre ++ rest))
    (hc : ∀ w, St G hs w → St ⟨G.P, w, ids pre⟩ pre w → Mut G.P f args w pre R) (hk : ∀ v hs2, R v hs2 → K v (hs2 ++ rest)) : CallVC G hs f args K := by
  refine ⟨fun v hs' => ∃ hs2, hs' = hs2 ++ rest ∧ R v hs2, fun w hw => ?_, fun v hs' ⟨hs2, e, hr⟩ => e ▸ hk v hs2 hr⟩
  have h1 := (hc w hw (hw.only hp)).calls
  intro cs
  obtain ⟨e, w', fr, ⟨v, hs2, he, hr, hst⟩, hx⟩ := h1 cs
  exact ⟨e, w', fr, ⟨v, hs2 ++ rest, he, ⟨hs2, rfl, hr⟩, hw.transM hp hst⟩, hx⟩

/-! ### Rows -/
/-- Cells behind one another, in a world. -/
def At (w : World) (A : Option Addr) (xs : List Value) : Prop := ∀ i x, xs[i]? = some x → ∃ a, A = some a ∧ w.cell? (a.add i) = some x
/-- A slice's cells, in a world. -/
inductive Row (w : World) : Value → List Value → Prop
  | mk (A : Option Addr) (xs : List Value) (n c : Nat) (hn : xs.length = n) (h : At w A xs) : Row w (.slice A n c) xs
theorem At.nil {w : World} {A : Option Addr} : At w A [] := fun i x h => by simp at h
/-- The same in all worlds that are such. -/
def Cx.rows (G : Cx) (hs : Hp) (v : Value) (xs : List Value) : Prop := ∀ w, St G hs w → Row w v xs
theorem At.old {w w' : World} {A : Option Addr} {xs : List Value} {fp : List Nat} {P : Program} {hs : Hp} (h : At w A xs) (hs' : St ⟨P, w, fp⟩ hs w') (hd : ∀ a, A = some a → a.block ∉ fp) : At w' A xs := by
  intro i x hx
  obtain ⟨a, rfl, hc⟩ := h i x hx
  refine ⟨a, rfl, ?_⟩
  have : (⟨P, w, fp⟩ : Cx).cellIs hs (a.add i) x := cellIs_old hc (by
    have := hd a rfl
    cases i <;> exact this)
  exact this w' hs'
theorem cellsAre_of_at {A : Option Addr} {a : Addr} {xs : List Value} (hA : A = some a) (h : At G.w0 A xs) (hd : a.block ∉ G.fp) : G.cellsAre hs a xs := by
  intro i x hx
  obtain ⟨a', ha, hc⟩ := h i x hx
  obtain rfl := Option.some.inj (hA.symm.trans ha)
  exact cellIs_old hc (by cases i <;> exact hd)
/-- A row handed to the call, as append and copy take it. -/
theorem Holds.at {A : Option Addr} {n c : Nat} {xs : List Value} (hn : xs.length = n) (h : At G.w0 A xs) (hd : ∀ a, A = some a → a.block ∉ G.fp) : Holds G hs 1 (.slice A n c) n xs := by
  subst hn
  cases xs with
  | nil => exact Holds.nil A c
  | cons x r =>
    obtain ⟨a, rfl, _⟩ := h 0 x rfl
    exact Holds.row (by simp) (cellsAre_of_at rfl h (hd a rfl))
theorem cell_of_at {A : Option Addr} {a : Addr} {xs : List Value} {i : Nat} {x : Value} (hA : A = some a) (h : At G.w0 A xs) (hd : a.block ∉ G.fp) (hx : xs[i]? = some x) : G.cellIs hs (a.add i) x :=
  cellsAre_of_at hA h hd i x hx
/-- A block of the call's own, or one handed to it, as a row. -/
theorem Holds.own {b n c : Nat} {cs xs : List Value} {t : TypeId} {fr : Nat × Nat} (hm : (⟨b, cs, t, fr⟩ : Ent) ∈ hs) (off : Nat) (hx : (cs.drop off).take n = xs) (hn : xs.length = n) : Holds G hs 1 (.slice (some ⟨b, off, none⟩) n c) n xs := by
  refine Holds.row (by omega) (cellsAre_at hm fun i v hv => ?_)
  subst hx
  rw [List.getElem?_take] at hv
  split at hv
  · rwa [List.getElem?_drop] at hv
  · cases hv
theorem row_own {b n c : Nat} {cs xs : List Value} {t : TypeId} {fr : Nat × Nat} (hm : (⟨b, cs, t, fr⟩ : Ent) ∈ hs) (off : Nat) (hx : (cs.drop off).take n = xs) (hn : xs.length = n) : G.rows hs (.slice (some ⟨b, off, none⟩) n c) xs := by
  intro w hw
  refine Row.mk _ _ _ _ hn (fun i x hi => ⟨_, rfl, ?_⟩)
  subst hx
  rw [List.getElem?_take] at hi
  split at hi
  · rw [add_plain, hw.cell hm, ← List.getElem?_drop]; exact hi
  · cases hi
theorem rows_old {v : Value} {xs : List Value} (h : Row G.w0 v xs) (hd : ∀ A n c a, v = .slice A n c → A = some a → a.block ∉ G.fp) : G.rows hs v xs := by
  intro w hw
  cases h with
  | mk A xs n c hn h => exact Row.mk _ _ _ _ hn (h.old hw (fun a ha => hd A n c a rfl ha))
theorem rows_sub {hs' : Hp} {v : Value} {xs : List Value} (h : G.rows hs v xs) (hs2 : hs.Sublist hs') : G.rows hs' v xs := fun w hw => h w (hw.sub hs2)
theorem rows_perm {hs' : Hp} {v : Value} {xs : List Value} (h : G.rows hs v xs) (hp : hs'.Perm hs) : G.rows hs' v xs := fun w hw => h w (hw.perm hp)
/-- Cells of one sort lie in no block whose cells are all of another. -/
theorem apart_of {w : World} {a : Addr} {xs : List Value} {e : Ent} {i : Nat} {x : Value} (hc : w.cell? (a.add i) = some x) (he : w.heap[e.b]? = some (.cells e.cs.toArray e.t e.fr)) (hn : ∀ y ∈ e.cs, y ≠ x) : a.block ≠ e.b := by
  intro hb
  have e1 : (a.add i).block = a.block := by cases i <;> rfl
  simp only [World.cell?, e1, hb, he] at hc
  split at hc
  · cases hc
  · exact hn x (by have := List.mem_of_getElem? (by simpa using hc); exact this) rfl
end
section
set_option maxRecDepth 100000
abbrev B8 := BitVec 8
abbrev W32 := BitVec 32
def ror (x : W32) (n : Nat) : W32 := x >>> n ||| x <<< (32 - n)
def great0 (x : W32) : W32 := ror x 2 ^^^ ror x 13 ^^^ ror x 22
def great1 (x : W32) : W32 := ror x 6 ^^^ ror x 11 ^^^ ror x 25
def small0 (x : W32) : W32 := ror x 7 ^^^ ror x 18 ^^^ x >>> 3
def small1 (x : W32) : W32 := ror x 17 ^^^ ror x 19 ^^^ x >>> 10
def table : List W32 := [
  0x428a2f98, 0x71374491, 0xb5c0fbcf, 0xe9b5dba5, 0x3956c25b, 0x59f111f1, 0x923f82a4, 0xab1c5ed5,
  0xd807aa98, 0x12835b01, 0x243185be, 0x550c7dc3, 0x72be5d74, 0x80deb1fe, 0x9bdc06a7, 0xc19bf174,
  0xe49b69c1, 0xefbe4786, 0x0fc19dc6, 0x240ca1cc, 0x2de92c6f, 0x4a7484aa, 0x5cb0a9dc, 0x76f988da,
  0x983e5152, 0xa831c66d, 0xb00327c8, 0xbf597fc7, 0xc6e00bf3, 0xd5a79147, 0x06ca6351, 0x14292967,
  0x27b70a85, 0x2e1b2138, 0x4d2c6dfc, 0x53380d13, 0x650a7354, 0x766a0abb, 0x81c2c92e, 0x92722c85,
  0xa2bfe8a1, 0xa81a664b, 0xc24b8b70, 0xc76c51a3, 0xd192e819, 0xd6990624, 0xf40e3585, 0x106aa070,
  0x19a4c116, 0x1e376c08, 0x2748774c, 0x34b0bcb5, 0x391c0cb3, 0x4ed8aa4a, 0x5b9cca4f, 0x682e6ff3,
  0x748f82ee, 0x78a5636f, 0x84c87814, 0x8cc70208, 0x90befffa, 0xa4506ceb, 0xbef9a3f7, 0xc67178f2]
def be (a b c d : B8) : W32 := a.setWidth 32 <<< 24 ||| b.setWidth 32 <<< 16 ||| c.setWidth 32 <<< 8 ||| d.setWidth 32
/-- The word at a place of bytes. -/
def wordAt (l : List B8) (i : Nat) : W32 := be (l.getD (4 * i) 0) (l.getD (4 * i + 1) 0) (l.getD (4 * i + 2) 0) (l.getD (4 * i + 3) 0)
def words (l : List B8) (n : Nat) : List W32 := (List.range n).map (wordAt l)
def nextW (l : List W32) : W32 := small1 (l.getD (l.length - 2) 0) + l.getD (l.length - 7) 0 + small0 (l.getD (l.length - 15) 0) + l.getD (l.length - 16) 0
def extend : Nat → List W32 → List W32
  | 0, l => l
  | n + 1, l => extend n (l ++ [nextW l])
structure S8 where
  (a b c d e f g h : W32)
def S8.begin : S8 := ⟨0x6a09e667, 0xbb67ae85, 0x3c6ef372, 0xa54ff53a, 0x510e527f, 0x9b05688c, 0x1f83d9ab, 0x5be0cd19⟩
def S8.round (s : S8) (k w : W32) : S8 :=
  ⟨(s.h + great1 s.e + (s.g ^^^ s.e &&& (s.f ^^^ s.g)) + k + w) + (great0 s.a + (s.a &&& s.b ||| s.c &&& (s.a ||| s.b))), s.a, s.b, s.c, s.d + (s.h + great1 s.e + (s.g ^^^ s.e &&& (s.f ^^^ s.g)) + k + w), s.e, s.f, s.g⟩
def S8.rounds : List W32 → List W32 → S8 → S8
  | k :: ks, w :: ws, s => S8.rounds ks ws (s.round k w)
  | _, _, s => s
def S8.plus (s t : S8) : S8 := ⟨s.a + t.a, s.b + t.b, s.c + t.c, s.d + t.d, s.e + t.e, s.f + t.f, s.g + t.g, s.h + t.h⟩
def sched (blk : List B8) : List W32 := extend 48 (words blk 16)
def S8.mix (s : S8) (blk : List B8) : S8 := s.plus (S8.rounds table (sched blk) s)
/-- So many blocks. -/
def S8.comp : Nat → S8 → List B8 → S8
  | 0, s, _ => s
  | n + 1, s, l => S8.comp n (s.mix (l.take 64)) (l.drop 64)
def S8.list (s : S8) : List W32 := [s.a, s.b, s.c, s.d, s.e, s.f, s.g, s.h]
def put32 (x : W32) : List B8 := [(x >>> 24).setWidth 8, (x >>> 16).setWidth 8, (x >>> 8).setWidth 8, x.setWidth 8]
def put64 (x : BitVec 64) : List B8 := [(x >>> 56).setWidth 8, (x >>> 48).setWidth 8, (x >>> 40).setWidth 8, (x >>> 32).setWidth 8, (x >>> 24).setWidth 8, (x >>> 16).setWidth 8, (x >>> 8).setWidth 8, x.setWidth 8]
def fill (l : List B8) (n : Nat) : List B8 := l ++ [0x80] ++ List.replicate ((119 - l.length % 64) % 64) 0 ++ put64 (BitVec.ofNat 64 (8 * n))
/-- The digest of what is left behind whole blocks that led to a state, all in all so many bytes. -/
def finish (s : S8) (left : List B8) (n : Nat) : List B8 := ((S8.comp ((fill left n).length / 64) s (fill left n)).list.map put32).flatten
/-- All whole blocks. -/
def S8.run (s : S8) (l : List B8) : S8 := S8.comp (l.length / 64) s l
def rest (l : List B8) : List B8 := l.drop (64 * (l.length / 64))
def sha (l : List B8) : List B8 := finish (S8.begin.run l) (rest l) l.length
def keyOf (key : List B8) : List B8 := if 64 < key.length then sha key else key
def padOf (key : List B8) (c : B8) : List B8 := (keyOf key ++ List.replicate (64 - (keyOf key).length) 0).map (· ^^^ c)
def hmac (key b : List B8) : List B8 := sha (padOf key 0x5C ++ sha (padOf key 0x36 ++ b))
def jefe : List B8 := [0x4a, 0x65, 0x66, 0x65]
def want : List B8 := [0x77,0x68,0x61,0x74,0x20,0x64,0x6f,0x20,0x79,0x61,0x20,0x77,0x61,0x6e,0x74,0x20,0x66,0x6f,0x72,0x20,0x6e,0x6f,0x74,0x68,0x69,0x6e,0x67,0x3f]
theorem jefe_tag : (hmac jefe want).getD 0 0 = 0x5B ∧ (hmac jefe want).getD 31 0 = 0x43 := by decide +kernel

theorem comp_app : ∀ (m n : Nat) (s : S8) (l r : List B8), l.length = 64 * m → S8.comp (m + n) s (l ++ r) = S8.comp n (S8.comp m s l) r
  | 0, n, s, l, r, h => by
    obtain rfl : l = [] := List.eq_nil_of_length_eq_zero (by omega)
    simp [S8.comp]
  | m + 1, n, s, l, r, h => by
    rw [show m + 1 + n = (m + n) + 1 by omega]
    simp only [S8.comp]
    rw [List.take_append_of_le_length (by omega), List.drop_append_of_le_length (by omega)]
    exact comp_app m n _ _ r (by simp; omega)
theorem comp_take : ∀ (n : Nat) (s : S8) (l : List B8), 64 * n ≤ l.length → S8.comp n s (l.take (64 * n)) = S8.comp n s l := by
  intro n s l h
  have := comp_app n 0 s (l.take (64 * n)) (l.drop (64 * n)) (by simp; omega)
  rw [List.take_append_drop] at this
  simpa [S8.comp] using this.symm
theorem rest_len (l : List B8) : (rest l).length = l.length % 64 := by
  simp only [rest, List.length_drop]; omega
/-- On and on: what was run, and what was left with what comes. -/
theorem run_app (s : S8) (l r : List B8) : s.run (l ++ r) = (s.run l).run (rest l ++ r) ∧ rest (l ++ r) = rest (rest l ++ r) := by
  have hl : l = l.take (64 * (l.length / 64)) ++ rest l := by simp [rest]
  have h64 : (l.take (64 * (l.length / 64))).length = 64 * (l.length / 64) := by simp; omega
  have hr := rest_len l
  constructor
  · unfold S8.run
    have e : (l ++ r).length / 64 = l.length / 64 + (rest l ++ r).length / 64 := by
      simp only [List.length_append, hr]; omega
    rw [e]
    generalize (rest l ++ r).length / 64 = n
    have e2 : S8.comp (l.length / 64) s l = S8.comp (l.length / 64) s (l.take (64 * (l.length / 64))) := (comp_take _ _ _ (by omega)).symm
    rw [e2, ← comp_app _ _ _ _ _ h64, ← List.append_assoc, ← hl]
  · have : (l ++ r).drop (64 * ((l ++ r).length / 64)) = (rest l ++ r).drop (64 * ((rest l ++ r).length / 64)) := by
      conv => lhs; arg 2; rw [hl, List.append_assoc]
      rw [List.drop_append, List.drop_eq_nil_of_le (by rw [h64]; simp only [List.length_append]; omega), List.nil_append, h64]
      congr 1
      simp only [List.length_append, hr]; omega
    exact this
theorem fill_len (l : List B8) (n : Nat) : (fill l n).length % 64 = 0 ∧ l.length + 9 ≤ (fill l n).length ∧ (fill l n).length ≤ l.length + 72 := by
  simp only [fill, put64, List.length_append, List.length_cons, List.length_nil, List.length_replicate]; omega
/-- All at once: the digest out of the filled bytes. -/
theorem sha_fill (l : List B8) : sha l = ((S8.comp ((fill l l.length).length / 64) S8.begin (fill l l.length)).list.map put32).flatten := by
  have hl : l = l.take (64 * (l.length / 64)) ++ rest l := by simp [rest]
  have h64 : (l.take (64 * (l.length / 64))).length = 64 * (l.length / 64) := by simp; omega
  have hr := rest_len l
  unfold sha finish
  have e : fill l l.length = l.take (64 * (l.length / 64)) ++ fill (rest l) l.length := by
    unfold fill
    rw [hr, Nat.mod_mod, ← List.append_assoc, ← List.append_assoc, ← List.append_assoc, ← hl]
  have e2 : (fill l l.length).length / 64 = l.length / 64 + (fill (rest l) l.length).length / 64 := by
    rw [e, List.length_append, h64]; omega
  rw [e2, e, comp_app _ _ _ _ _ h64, comp_take _ _ _ (by omega)]
  rfl
theorem list32 (s : S8) : (s.list.map put32).flatten.length = 32 := rfl
theorem sha_len (l : List B8) : (sha l).length = 32 := rfl
theorem keyOf_len (k : List B8) : (keyOf k).length ≤ 64 := by
  unfold keyOf; split
  · rw [sha_len]; omega
  · omega
theorem padOf_len (k : List B8) (c : B8) : (padOf k c).length = 64 := by
  have := keyOf_len k
  simp only [padOf, List.length_map, List.length_append, List.length_replicate]; omega
theorem hmac_len (k b : List B8) : (hmac k b).length = 32 := rfl
theorem extend_len : ∀ (n : Nat) (l : List W32), (extend n l).length = l.length + n
  | 0, _ => rfl
  | n + 1, l => by rw [extend, extend_len n]; simp; omega
theorem sched_len (b : List B8) : (sched b).length = 64 := by rw [sched, extend_len]; simp [words]
/-! The document's words for the same. -/
theorem ch_eq (e f g : W32) : g ^^^ e &&& (f ^^^ g) = (e &&& f ^^^ ~~~e &&& g) := by
  ext i hi
  simp only [BitVec.getElem_xor, BitVec.getElem_and, BitVec.getElem_not]
  cases e[i] <;> cases f[i] <;> cases g[i] <;> rfl
theorem maj_eq (a b c : W32) : (a &&& b ||| c &&& (a ||| b)) = (a &&& b ^^^ a &&& c ^^^ b &&& c) := by
  ext i hi
  simp only [BitVec.getElem_xor, BitVec.getElem_and, BitVec.getElem_or]
  cases a[i] <;> cases b[i] <;> cases c[i] <;> rfl
attribute [irreducible] extend sched S8.rounds S8.mix S8.comp S8.run rest fill finish sha keyOf padOf hmac
end
section
set_option linter.unusedVariables false
set_option linter.unusedSimpArgs false
open Go

abbrev w32 (x : W32) : Value := .int .u32 (x.toNat : Int)
abbrev b8 (x : B8) : Value := .int .u8 (x.toNat : Int)
abbrev w64 (x : BitVec 64) : Value := .int .u64 (x.toNat : Int)
section cells
variable {G : Cx} {hs : Hp}
theorem cell_arg {a : Addr} {l : List B8} {k : Nat} (h : At G.w0 (some a) (l.map b8)) (hd : a.block ∉ G.fp) (hk : k < l.length) : G.cellIs hs (a.add (k * 1)) (b8 (l.getD k 0)) := by
  rw [Nat.mul_one]
  refine cell_of_at rfl h hd ?_
  rw [List.getElem?_map, List.getElem?_eq_getElem hk, List.getD_eq_getElem?_getD, List.getElem?_eq_getElem hk]
  rfl
theorem word_arg {a : Addr} {l : List W32} {k : Nat} (h : At G.w0 (some a) (l.map w32)) (hd : a.block ∉ G.fp) (hk : k < l.length) : G.cellIs hs (a.add (k * 1)) (w32 (l.getD k 0)) := by
  rw [Nat.mul_one]
  refine cell_of_at rfl h hd ?_
  rw [List.getElem?_map, List.getElem?_eq_getElem hk, List.getD_eq_getElem?_getD, List.getElem?_eq_getElem hk]
  rfl
theorem cell_w {b k : Nat} {l : List W32} {t : TypeId} {fr : Nat × Nat} (hm : (⟨b, l.map w32, t, fr⟩ : Ent) ∈ hs) (hk : k < l.length) : G.cellIs hs (Addr.add ⟨b, 0, none⟩ (k * 1)) (w32 (l.getD k 0)) := by
  rw [Nat.mul_one, add_plain, Nat.zero_add]
  refine cellIs_at hm ?_
  rw [List.getElem?_map, List.getElem?_eq_getElem hk, List.getD_eq_getElem?_getD, List.getElem?_eq_getElem hk]
  rfl
theorem cell_b {b k : Nat} {l : List B8} {t : TypeId} {fr : Nat × Nat} (hm : (⟨b, l.map b8, t, fr⟩ : Ent) ∈ hs) (hk : k < l.length) : G.cellIs hs (Addr.add ⟨b, 0, none⟩ (k * 1)) (b8 (l.getD k 0)) := by
  rw [Nat.mul_one, add_plain, Nat.zero_add]
  refine cellIs_at hm ?_
  rw [List.getElem?_map, List.getElem?_eq_getElem hk, List.getD_eq_getElem?_getD, List.getElem?_eq_getElem hk]
  rfl
theorem store_el {b k : Nat} {cs : List Value} {v : Value} {t : TypeId} {fr : Nat × Nat} {hs' : Hp} {K : Hp → Prop} (hu : Upd ⟨b, cs, t, fr⟩ ⟨b, cs.set k v, t, fr⟩ hs hs') (hfr : Soft fr cs.length) (h1 : one v = true) (hk : k < cs.length) (h : K hs') :
    StoreVC G hs (Addr.add ⟨b, 0, none⟩ (k * 1)) [v] K := by
  rw [Nat.mul_one, add_plain, Nat.zero_add]
  exact StoreVC.at_ hu hfr (by simp [h1]) (by show k + 1 ≤ cs.length; omega) h
theorem cell_wr {b k : Nat} {l : List W32} {r : List Value} {t : TypeId} {fr : Nat × Nat} (hm : (⟨b, l.map w32 ++ r, t, fr⟩ : Ent) ∈ hs) (hk : k < l.length) : G.cellIs hs (Addr.add ⟨b, 0, none⟩ (k * 1)) (w32 (l.getD k 0)) := by
  rw [Nat.mul_one, add_plain, Nat.zero_add]
  refine cellIs_at hm ?_
  rw [List.getElem?_append_left (by simpa using hk), List.getElem?_map, List.getElem?_eq_getElem hk, List.getD_eq_getElem?_getD, List.getElem?_eq_getElem hk]
  rfl
theorem cell_br {b k : Nat} {l : List B8} {r : List Value} {t : TypeId} {fr : Nat × Nat} (hm : (⟨b, l.map b8 ++ r, t, fr⟩ : Ent) ∈ hs) (hk : k < l.length) : G.cellIs hs (Addr.add ⟨b, 0, none⟩ (k * 1)) (b8 (l.getD k 0)) := by
  rw [Nat.mul_one, add_plain, Nat.zero_add]
  refine cellIs_at hm ?_
  rw [List.getElem?_append_left (by simpa using hk), List.getElem?_map, List.getElem?_eq_getElem hk, List.getD_eq_getElem?_getD, List.getElem?_eq_getElem hk]
  rfl
theorem store_all {b : Nat} {cs vs : List Value} {t : TypeId} {fr : Nat × Nat} {hs' : Hp} {K : Hp → Prop} (hu : Upd ⟨b, cs, t, fr⟩ ⟨b, vs, t, fr⟩ hs hs') (hfr : Soft fr cs.length) (h1 : vs.all one = true) (hk : vs.length = cs.length) (h : K hs') :
    StoreVC G hs ⟨b, 0, none⟩ vs K := by
  have e : layL vs cs 0 = vs := by rw [layL_eq _ _ _ (by omega)]; simp [hk]
  exact StoreVC.at_ (by rw [e]; exact hu) hfr h1 (by omega) h
end cells
theorem map_set {α : Type} (f : α → Value) (l : List α) (i : Nat) (x : α) : (l.map f).set i (f x) = (l.set i x).map f := by rw [List.map_set]
theorem ones_w (l : List W32) : (l.map w32).all one = true := by simp [one]
theorem ones_b (l : List B8) : (l.map b8).all one = true := by simp [one]
theorem conv8_32 (a : B8) : ((a.setWidth 32).toNat : Int) = IntKind.u32.wrap (a.toNat : Int) := by
  rw [BitVec.toNat_setWidth, Nat.mod_eq_of_lt (by have := a.isLt; omega)]
  exact fit_u32 (by omega) (by have := a.isLt; omega)
theorem conv8_64 (a : B8) : ((a.setWidth 64).toNat : Int) = IntKind.u64.wrap (a.toNat : Int) := by
  rw [BitVec.toNat_setWidth, Nat.mod_eq_of_lt (by have := a.isLt; omega)]
  exact fit_u64 (by omega) (by have := a.isLt; omega)
theorem conv32_64 (a : W32) : ((a.setWidth 64).toNat : Int) = IntKind.u64.wrap (a.toNat : Int) := by
  rw [BitVec.toNat_setWidth, Nat.mod_eq_of_lt (by have := a.isLt; omega)]
  exact fit_u64 (by omega) (by have := a.isLt; omega)
theorem conv32_8 (a : W32) : ((a.setWidth 8).toNat : Int) = IntKind.u8.wrap (a.toNat : Int) := by
  rw [BitVec.toNat_setWidth]
  simp [IntKind.wrap, IntKind.signed, IntKind.bits]
theorem conv64_8 (a : BitVec 64) : ((a.setWidth 8).toNat : Int) = IntKind.u8.wrap (a.toNat : Int) := by
  rw [BitVec.toNat_setWidth]
  simp [IntKind.wrap, IntKind.signed, IntKind.bits]
theorem conv64_32 (a : BitVec 64) : ((a.setWidth 32).toNat : Int) = IntKind.u32.wrap (a.toNat : Int) := by
  rw [BitVec.toNat_setWidth]
  simp [IntKind.wrap, IntKind.signed, IntKind.bits]

/-! ### Rows that a call makes -/
section made
variable {G : Cx} {T : Tab} {hs : Hp}
/-- A row of the call's own: its block, and what else may be new. -/
structure Gives (e : Nat) (xs : List Value) (v : Value) (hs : Hp) : Prop where wrap ::
  raw : ∃ (b : Nat) (r : List Value) (fr : Nat × Nat), v = .slice (some ⟨b, 0, none⟩) xs.length (xs ++ r).length ∧ (⟨b, xs ++ r, e, fr⟩ : Ent) ∈ hs ∧ Soft fr (xs ++ r).length
theorem Gives.mk {e b : Nat} {xs r : List Value} {n c : Nat} {fr : Nat × Nat} (hm : (⟨b, xs ++ r, e, fr⟩ : Ent) ∈ hs) (hn : n = xs.length) (hc : c = (xs ++ r).length) (hf : Soft fr (xs ++ r).length) : Gives e xs (.slice (some ⟨b, 0, none⟩) n c) hs :=
  ⟨b, r, fr, by rw [hn, hc], hm, hf⟩
theorem Gives.all {e b : Nat} {cs xs : List Value} {n c : Nat} (hm : (⟨b, cs, e, (0, 0)⟩ : Ent) ∈ hs) (hx : cs = xs) (hn : n = xs.length) (hc : c = xs.length) : Gives e xs (.slice (some ⟨b, 0, none⟩) n c) hs :=
  ⟨b, [], (0, 0), by rw [hn, hc]; simp, by rw [← hx]; simpa using hm, soft0⟩
theorem CallVC.ofW {f : Nat} {args : List Value} {K R : Value → Hp → Prop} (hc : ∀ w, St G hs w → Ret G.P f args w R) (hk : ∀ v hs2, R v hs2 → ∃ hs3, hs3.Sublist hs2 ∧ K v (hs3 ++ hs)) : CallVC G hs f args K := by
  refine ⟨K, fun w hw => (hc w hw).calls.mono ?_, fun _ _ h => h⟩
  rintro e w' ⟨v, hs2, rfl, hr, hst⟩
  obtain ⟨hs3, h1, h2⟩ := hk v hs2 hr
  exact ⟨v, hs3 ++ hs, rfl, h2, (hw.trans hst).sub (h1.append_right hs)⟩
theorem CallVC.gives {f e : Nat} {args : List Value} {K : Value → Hp → Prop} {xs : List Value} (hc : ∀ w, St G hs w → Ret G.P f args w fun v hs2 => Gives e xs v hs2)
    (hk : ∀ b r fr, Soft fr (xs ++ r).length → K (.slice (some ⟨b, 0, none⟩) xs.length (xs ++ r).length) (⟨b, xs ++ r, e, fr⟩ :: hs)) : CallVC G hs f args K :=
  CallVC.ofW hc fun v hs2 ⟨b, r, fr, hv, hm, hf⟩ => ⟨[⟨b, xs ++ r, e, fr⟩], List.singleton_sublist.2 hm, by subst hv; exact hk b r fr hf⟩
/-- The same beside a number. -/
def GivesE (e : Nat) (xs : List Value) (c : Value) (v : Value) (hs : Hp) : Prop := ∃ u, v = .tuple #[u, c] ∧ Gives e xs u hs
theorem CallVC.givesE {f e : Nat} {args : List Value} {K : Value → Hp → Prop} {xs : List Value} {c : Value} (hc : ∀ w, St G hs w → Ret G.P f args w fun v hs2 => GivesE e xs c v hs2)
    (hk : ∀ b r fr, Soft fr (xs ++ r).length → K (.tuple #[.slice (some ⟨b, 0, none⟩) xs.length (xs ++ r).length, c]) (⟨b, xs ++ r, e, fr⟩ :: hs)) : CallVC G hs f args K :=
  CallVC.ofW hc fun v hs2 ⟨u, hv, b, r, fr, hu, hm, hf⟩ => ⟨[⟨b, xs ++ r, e, fr⟩], List.singleton_sublist.2 hm, by subst hv hu; exact hk b r fr hf⟩
/-- Onto a row of the call's own, whose cells are the row's and some more. -/
theorem AppendVC.on {t tx e n m b cap : Nat} {j : TyI} {x : Value} {xs r ys : List Value} {fr : Nat × Nat} {rest : Hp} {K : Value → Hp → Prop} (hT : TabOK G.P T) (ht : ApT T t tx e j) (h1 : j.size = 1)
    (hm : Take ⟨b, xs ++ r, e, fr⟩ hs rest) (hfr : Soft fr (xs ++ r).length) (hcap : (xs ++ r).length = cap) (hn : xs.length = n) (hx : Holds G hs 1 x m ys) (hone : ys.all one = true)
    (room : (2 * (n + m) + 192) * j.bytes ≤ 281474976710656)
    (h : ∀ b' r' fr', Soft fr' (xs ++ ys ++ r').length → K (.slice (some ⟨b', 0, none⟩) (n + m) (xs ++ ys ++ r').length) (⟨b', xs ++ ys ++ r', e, fr'⟩ :: rest)) :
    AppendVC G hs t tx (.slice (some ⟨b, 0, none⟩) n cap) x K := by
  have hxl := hx.len
  refine AppendVC.own hT ht hm hfr (by rw [h1]; omega) (by rw [← hcap, ← hn]; simp) (by rw [h1]; exact hx) hone room ?_
  intro b' cs' cap' fr' g1 g2 g3 g4
  rw [h1, Nat.mul_one] at g1 g4
  rw [Nat.mul_one, ← hn, List.take_left] at g4
  obtain ⟨r', rfl⟩ : ∃ r', cs' = xs ++ ys ++ r' := ⟨cs'.drop (n + m), by rw [← g4, hn, List.take_append_drop]⟩
  rw [← g1]
  exact h b' r' fr' g3
theorem AppendVC.bytes {t tx e n m b cap : Nat} {j : TyI} {x : Value} {xs ys : List B8} {r : List Value} {fr : Nat × Nat} {rest : Hp} {K : Value → Hp → Prop} (hT : TabOK G.P T) (ht : ApT T t tx e j) (h1 : j.size = 1)
    (hm : Take ⟨b, xs.map b8 ++ r, e, fr⟩ hs rest) (hfr : Soft fr (xs.map b8 ++ r).length) (hcap : (xs.map b8 ++ r).length = cap) (hn : xs.length = n) (hx : Holds G hs 1 x m (ys.map b8))
    (room : (2 * (n + m) + 192) * j.bytes ≤ 281474976710656)
    (h : ∀ b' r' fr', Soft fr' ((xs ++ ys).map b8 ++ r').length → K (.slice (some ⟨b', 0, none⟩) (n + m) ((xs ++ ys).map b8 ++ r').length) (⟨b', (xs ++ ys).map b8 ++ r', e, fr'⟩ :: rest)) :
    AppendVC G hs t tx (.slice (some ⟨b, 0, none⟩) n cap) x K := by
  refine AppendVC.on hT ht h1 hm hfr hcap (by simpa using hn) hx (ones_b _) room ?_
  intro b' r' fr' hf
  have e : xs.map b8 ++ ys.map b8 = (xs ++ ys).map b8 := by rw [List.map_append]
  rw [e] at hf ⊢
  exact h b' r' fr' hf
/-- copy onto a row of the call's own. -/
theorem CopyVC.bytes {t tx e n m b c : Nat} {i j : TyI} {x : Value} {ys : List B8} {cs : List Value} {fr : Nat × Nat} {hs' : Hp} {K : Value → Hp → Prop} (hT : TabOK G.P T) (hi : look T.ts t = some i) (hd : i.d = .slice e) (hj : look T.ts e = some j) (h1 : j.size = 1)
    (hx : Holds G hs 1 x m (ys.map b8)) (hu : Upd ⟨b, cs, e, fr⟩ ⟨b, ys.map b8 ++ cs.drop m, e, fr⟩ hs hs') (hm : m ≤ n) (hn : n ≤ cs.length) (hf : Soft fr cs.length) (h : K (.int .i64 m) hs') :
    CopyVC G hs t tx (.slice (some ⟨b, 0, none⟩) n c) x K := by
  have hxl : ys.length = m := by have := hx.len; simpa using this
  refine CopyVC.all hT hi hd hj (by rw [h1]; exact hx) hm (fun a ha => ?_) (fun h => by cases h)
  obtain rfl := Option.some.inj ha
  have e : layL (ys.map b8) cs 0 = ys.map b8 ++ cs.drop m := by rw [layL_eq _ _ _ (by simp; omega)]; simp [hxl]
  exact StoreVC.at_ (by rw [e]; exact hu) hf (ones_b _) (by simp; omega) h
/-- A callee that changes what it is handed, and hands back a row. -/
theorem CallVC.mutG {f e : Nat} {args : List Value} {K : Value → Hp → Prop} {xs : List Value} (pre rest : Hp) (hp : hs.Perm (pre ++ rest))
    (hc : ∀ w, St G hs w → St ⟨G.P, w, ids pre⟩ pre w → Mut G.P f args w pre fun v hs2 => Gives e xs v hs2)
    (hk : ∀ b r fr, Soft fr (xs ++ r).length → K (.slice (some ⟨b, 0, none⟩) xs.length (xs ++ r).length) (⟨b, xs ++ r, e, fr⟩ :: rest)) : CallVC G hs f args K := by
  refine ⟨K, fun w hw => (hc w hw (hw.only hp)).calls.mono ?_, fun _ _ h => h⟩
  rintro e' w' ⟨v, hs2, rfl, ⟨b, r, fr, hv, hm, hf⟩, hst⟩
  subst hv
  exact ⟨_, ⟨b, xs ++ r, e, fr⟩ :: rest, rfl, hk b r fr hf, (hw.transM hp hst).sub ((List.singleton_sublist.2 hm).append_right rest)⟩
end made
end
section
set_option linter.unusedVariables false
set_option linter.unusedSimpArgs false
open Go
section made
variable {G : Cx} {T : Tab} {hs : Hp}
theorem CallVC.givesB {f e : Nat} {args : List Value} {K : Value → Hp → Prop} {xs : List B8} (hc : ∀ w, St G hs w → Ret G.P f args w (Gives e (xs.map b8)))
    (hk : ∀ b r fr, Soft fr (xs.map b8 ++ r).length → K (.slice (some ⟨b, 0, none⟩) xs.length (xs.map b8 ++ r).length) (⟨b, xs.map b8 ++ r, e, fr⟩ :: hs)) : CallVC G hs f args K :=
  CallVC.gives hc fun b r fr hf => by rw [List.length_map]; exact hk b r fr hf
theorem CallVC.givesEB {f e : Nat} {args : List Value} {K : Value → Hp → Prop} {xs : List B8} {c : Value} (hc : ∀ w, St G hs w → Ret G.P f args w (GivesE e (xs.map b8) c))
    (hk : ∀ b r fr, Soft fr (xs.map b8 ++ r).length → K (.tuple #[.slice (some ⟨b, 0, none⟩) xs.length (xs.map b8 ++ r).length, c]) (⟨b, xs.map b8 ++ r, e, fr⟩ :: hs)) : CallVC G hs f args K :=
  CallVC.givesE hc fun b r fr hf => by rw [List.length_map]; exact hk b r fr hf
theorem CallVC.mutGB {f e : Nat} {args : List Value} {K : Value → Hp → Prop} {xs : List B8} (pre rest : Hp) (hp : hs.Perm (pre ++ rest))
    (hc : ∀ w, St G hs w → St ⟨G.P, w, ids pre⟩ pre w → Mut G.P f args w pre (Gives e (xs.map b8)))
    (hk : ∀ b r fr, Soft fr (xs.map b8 ++ r).length → K (.slice (some ⟨b, 0, none⟩) xs.length (xs.map b8 ++ r).length) (⟨b, xs.map b8 ++ r, e, fr⟩ :: rest)) : CallVC G hs f args K :=
  CallVC.mutG pre rest hp hc fun b r fr hf => by rw [List.length_map]; exact hk b r fr hf
/-- An argument's row, in a world that has gone on. -/
theorem At.here {P : Program} {w w' : World} {fp : List Nat} {A : Option Addr} {xs : List Value} (h : At w A xs) (hw : St ⟨P, w, fp⟩ hs w') (hd : ∀ a, A = some a → a.block ∉ fp) : At w' A xs := h.old hw hd
/-- A row that is known, in a world. -/
theorem at_own {b off : Nat} {cs xs : List Value} {t : TypeId} {fr : Nat × Nat} {w : World} (hm : (⟨b, cs, t, fr⟩ : Ent) ∈ hs) (hw : St G hs w) (hx : ∀ i v, xs[i]? = some v → cs[off + i]? = some v) : At w (some ⟨b, off, none⟩) xs :=
  fun i v hv => ⟨_, rfl, by rw [add_plain, hw.cell hm]; exact hx i v hv⟩
theorem at_pre {b : Nat} {xs r : List Value} {t : TypeId} {fr : Nat × Nat} {w : World} (hm : (⟨b, xs ++ r, t, fr⟩ : Ent) ∈ hs) (hw : St G hs w) : At w (some ⟨b, 0, none⟩) xs :=
  at_own hm hw fun i v hv => by rw [Nat.zero_add, List.getElem?_append_left (List.getElem?_eq_some_iff.1 hv).1]; exact hv
end made
end
section
set_option linter.unusedVariables false
set_option linter.unusedSimpArgs false
open Go
section cut
variable {G : Cx} {T : Tab} {hs : Hp}
theorem add_add (a : Addr) (l i : Nat) : (a.add l).add i = a.add (l + i) := by
  rw [moved_eq, moved_eq, moved_eq]
  cases l with
  | zero => rw [Nat.zero_add]; rfl
  | succ l =>
    cases i with
    | zero => rfl
    | succ i =>
      show (⟨a.block, a.off + (l + 1) + (i + 1), none⟩ : Addr) = ⟨a.block, a.off + (l + 1 + i + 1), none⟩
      congr 1
      omega
theorem At.cut {w : World} {A : Option Addr} {xs : List Value} {c l : Nat} (h : At w A xs) (hc : xs.length ≤ c) : At w (if c = l then A else A.map (·.add (l * 1))) (xs.drop l) := by
  intro i x hx
  rw [List.getElem?_drop] at hx
  have hlt := (List.getElem?_eq_some_iff.1 hx).1
  obtain ⟨a, rfl, hcell⟩ := h (l + i) x hx
  rw [if_neg (by omega), Nat.mul_one]
  exact ⟨_, rfl, by rw [add_add]; exact hcell⟩
theorem At.take {w : World} {A : Option Addr} {xs : List Value} (h : At w A xs) (n : Nat) : At w A (xs.take n) := by
  intro i x hx
  rw [List.getElem?_take] at hx
  split at hx
  · exact h i x hx
  · cases hx
theorem At.is {w : World} {A : Option Addr} {xs : List Value} (h : At w A xs) (hn : 0 < xs.length) : ∃ a, A = some a := by
  obtain ⟨a, ha, _⟩ := h 0 xs[0] (by simp)
  exact ⟨a, ha⟩
theorem At.cutB {w : World} {A : Option Addr} {xs : List B8} {c l : Nat} (h : At w A (xs.map b8)) (hc : xs.length ≤ c) : At w (if c = l then A else A.map (·.add (l * 1))) ((xs.drop l).map b8) := by
  rw [List.map_drop]; exact h.cut (by simpa using hc)
theorem At.takeB {w : World} {A : Option Addr} {xs : List B8} (h : At w A (xs.map b8)) (n : Nat) : At w A ((xs.take n).map b8) := by
  rw [List.map_take]; exact h.take n
/-- A block that lies at the call's begin, and is not changed. -/
theorem cell_known {p i : Nat} {cs : List Value} {v : Value} (h : At G.w0 (some ⟨p, 0, none⟩) cs) (hp : p ∉ G.fp) (hv : cs[i]? = some v) : G.cellIs hs ⟨p, i, none⟩ v := by
  obtain ⟨a, ha, hc⟩ := h i v hv
  obtain rfl := Option.some.inj ha
  rw [add_plain, Nat.zero_add] at hc
  exact cellIs_old hc hp
theorem part_known {p off n : Nat} {cs : List Value} (h : At G.w0 (some ⟨p, 0, none⟩) cs) (hp : p ∉ G.fp) (hl : ((cs.drop off).take n).length = n) : ((cs.drop off).take n).length = n ∧ G.cellsAre hs ⟨p, off, none⟩ ((cs.drop off).take n) := by
  refine ⟨hl, fun i v hv => ?_⟩
  rw [List.getElem?_take] at hv
  split at hv
  · rw [List.getElem?_drop] at hv
    rw [add_plain]
    exact cell_known h hp hv
  · cases hv
/-- A row of bytes lies in no block that holds none. -/
theorem At.apart {w : World} {A : Option Addr} {xs : List B8} {e : Ent} (h : At w A (xs.map b8)) (hx : xs ≠ []) (he : w.heap[e.b]? = some (.cells e.cs.toArray e.t e.fr)) (hn : ∀ y ∈ e.cs, ∀ x : B8, y ≠ b8 x) : ∀ a, A = some a → a.block ≠ e.b := by
  intro a ha
  cases xs with
  | nil => exact absurd rfl hx
  | cons x r =>
    obtain ⟨a', ha', hc⟩ := h 0 (b8 x) rfl
    obtain rfl := Option.some.inj (ha.symm.trans ha')
    exact apart_of (xs := []) (i := 0) hc he (fun y hy => hn y hy x)
theorem LoopVC.perm {body : Env → Hp → (Env → Hp → Prop) → Prop} {env : Env} {hs' : Hp} (hp : hs.Perm hs') (h : LoopVC G body env hs') : LoopVC G body env hs := by
  obtain ⟨I, ⟨n, env1, hs1, h1, h2, h3⟩, h4⟩ := h.raw
  exact ⟨I, ⟨n, env1, hs1, h1, fun w hw => h2 w (hw.perm hp), h3⟩, h4⟩
end cut
end
section
set_option linter.unusedVariables false
set_option linter.unusedSimpArgs false
open Go
variable {G : Cx} {T : Tab} {P : Program}

/-! ### What a world keeps -/
def cellsB : Obj → Bool
  | .cells .. => true
  | _ => false
theorem old_heap (w : World) (o : Obj) (k : Nat) (h : k < w.heap.size) : (w.alloc o).heap[k]? = w.heap[k]? := by
  show (w.heap.push o)[k]? = _
  rw [Array.getElem?_push, if_neg (by omega)]
/-- Of the blocks of cells, only the named ones change. -/
structure Kept (fp : List Nat) (A B : World) : Prop where mk ::
  os : B.os = A.os
  tape : B.tape = A.tape
  output : B.output = A.output
  size : A.heap.size ≤ B.heap.size
  old : ∀ b cs t fr, A.heap[b]? = some (.cells cs t fr) → b ∉ fp → B.heap[b]? = some (.cells cs t fr)
theorem Kept.refl (fp : List Nat) (A : World) : Kept fp A A := ⟨rfl, rfl, rfl, Nat.le_refl _, fun _ _ _ _ h _ => h⟩
theorem Kept.trans {fp : List Nat} {A B C : World} (h : Kept fp A B) (k : Kept fp B C) : Kept fp A C :=
  ⟨k.os.trans h.os, k.tape.trans h.tape, k.output.trans h.output, Nat.le_trans h.size k.size, fun b cs t fr hb hf => k.old b cs t fr (h.old b cs t fr hb hf) hf⟩
theorem Kept.wide {fp fp' : List Nat} {A B : World} (h : Kept fp A B) (hs : ∀ b ∈ fp, b ∈ fp') : Kept fp' A B :=
  ⟨h.os, h.tape, h.output, h.size, fun b cs t fr hb hf => h.old b cs t fr hb fun hm => hf (hs b hm)⟩
theorem Kept.none {fp : List Nat} {A B : World} (h : Kept [] A B) : Kept fp A B := h.wide (by simp)
theorem Kept.of {fp : List Nat} {hs : Hp} {A B : World} (h : St ⟨P, A, fp⟩ hs B) : Kept fp A B :=
  ⟨h.os, h.tape, h.output, h.size, fun b cs t fr hb hf => (h.old b (Array.getElem?_eq_some_iff.1 hb).1 hf).trans hb⟩
theorem Kept.put {A : World} {l : Nat} {o o' : Obj} (hl : A.heap[l]? = some o) (ho : cellsB o = false) : Kept [] A (A.putObj l o') :=
  ⟨rfl, rfl, rfl, Nat.le_of_eq World.putObj_size.symm, fun b cs t fr hb _ => (World.putObj_heap_other (by rintro rfl; rw [hl] at hb; cases hb; cases ho)).trans hb⟩
theorem At.kept {fp : List Nat} {w w' : World} {A : Option Addr} {xs : List Value} (h : At w A xs) (hk : Kept fp w w') (hd : ∀ a, A = some a → a.block ∉ fp) : At w' A xs := by
  intro i x hx
  obtain ⟨a, rfl, hc⟩ := h i x hx
  refine ⟨a, rfl, ?_⟩
  have hb : (a.add i).block = a.block := by cases i <;> rfl
  unfold World.cell? at hc ⊢
  rw [hb] at hc ⊢
  cases ho : w.heap[a.block]? with
  | none => rw [ho] at hc; cases hc
  | some o =>
    rw [ho] at hc
    cases o with
    | cells cs t fr => rw [hk.old _ _ _ _ ho (hd a rfl)]; exact hc
    | _ => cases hc
theorem At.lt {w : World} {a : Addr} {xs : List Value} (h : At w (some a) xs) (hx : xs ≠ []) : a.block < w.heap.size := by
  cases xs with
  | nil => exact absurd rfl hx
  | cons x r =>
    obtain ⟨a', ha, hc⟩ := h 0 x rfl
    obtain rfl := Option.some.inj ha
    have hb : (a.add 0).block = a.block := rfl
    unfold World.cell? at hc
    rw [hb] at hc
    cases ho : w.heap[a.block]? with
    | none => rw [ho] at hc; cases hc
    | some o => exact (Array.getElem?_eq_some_iff.1 ho).1
theorem At.keptB {fp : List Nat} {w w' : World} {A : Option Addr} {xs : List Value} (h : At w A xs) (hk : Kept fp w w') (hd : xs ≠ [] → ∀ a, A = some a → a.block ∉ fp) : At w' A xs := by
  cases xs with
  | nil => exact At.nil
  | cons x r => exact h.kept hk (hd (by simp))
theorem St.putObj {hs : Hp} {w : World} (h : St G hs w) {l : Nat} {o o' : Obj} (hl : w.heap[l]? = some o) (ho : cellsB o = false) (hn : G.w0.heap.size ≤ l) : St G hs (w.putObj l o') := by
  refine ⟨h.os, h.tape, h.output, ?_, ?_, ?_, h.nodup, h.new⟩
  · rw [World.putObj_size]; exact h.size
  · intro b hb hf
    rw [World.putObj_heap_other (by omega)]
    exact h.old b hb hf
  · intro e he
    rw [World.putObj_heap_other (by intro hb; have := h.own e he; rw [hb, hl] at this; cases this; cases ho)]
    exact h.own e he
theorem St.allocObj {hs : Hp} {w : World} (h : St G hs w) (o : Obj) : St G hs (w.alloc o) := by
  refine ⟨h.os, h.tape, h.output, ?_, ?_, ?_, h.nodup, h.new⟩
  · rw [World.size_alloc]; have := h.size; omega
  · intro b hb hf
    rw [old_heap _ _ _ (by have := h.size; omega)]
    exact h.old b hb hf
  · intro e he
    rw [old_heap _ _ _ (h.lt he)]
    exact h.own e he
theorem Kept.alloc (w : World) (o : Obj) : Kept [] w (w.alloc o) :=
  ⟨rfl, rfl, rfl, by rw [World.size_alloc]; omega, fun b cs t fr hb _ => (old_heap _ _ _ (Array.getElem?_eq_some_iff.1 hb).1).trans hb⟩
/-- On in the world at hand, with what is known there. -/
theorem St.here {hs : Hp} {w : World} (h : St G hs w) : St ⟨G.P, w, ids hs⟩ hs w := h.only (rest := []) (by simp)
theorem St.thru {hs hs2 : Hp} {w w' : World} (h : St G hs w) (h2 : St ⟨G.P, w, ids hs⟩ hs2 w') : St G hs2 w' := by
  have := h.transM (rest := []) (by simp) h2
  rwa [List.append_nil] at this

/-! ### The loop -/
/-- A call of yield. -/
def YieldAt (F : Fence) (m : Nat) (P : Program) (l : Nat) (args : Array Value) (W : World) (R : Ending → World → Prop) : Prop :=
  ∃ fn tmps assign body, (Instr.yield l args).run P W = .ok (.round l fn tmps assign body) W ∧ RoundIn F m P l fn tmps assign body W R
/-- An iterator, called in a world: so many elements, and what it keeps. -/
structure Iter (P : Program) (gf : Nat) (lb : Array Value) (W1 : World) (fp : List Nat) (lim : Prop) (N : Nat) (El : Nat → World → Array Value → Prop) : Prop where wrap ::
  raw : ∀ (l : Nat) (J Jx : Nat → World → Prop), (∀ i A B, J i A → St ⟨P, A, []⟩ [] B → J i B) → (∀ i A B, Jx i A → St ⟨P, A, []⟩ [] B → Jx i B) →
    (∀ i A vs, i < N → J i A → El i A vs → YieldAt (FR none) 0 P l vs A fun e B => (e = .returned (.bool true) ∧ J (i + 1) B ∧ Kept fp A B) ∨ (e = .returned (.bool false) ∧ Jx (i + 1) B)) →
    (¬ lim → ∀ A, ¬ J N A) → J 0 W1 → CallsIn (FR none) 0 P gf (#[.func (.yield l) #[] #[]] ++ lb) W1 fun e W' => (∃ v, e = .returned v) ∧ (J N W' ∨ ∃ i, Jx i W')
abbrev markOf (D : Nat) : Deferred := { target := .collected D, args := #[] }
/-- What is no cells lies as it lay. -/
def Stay (A B : World) : Prop := ∀ (b : Nat) (o : Obj), A.heap[b]? = some o → cellsB o = false → B.heap[b]? = some o
/-- How a round ends. -/
def bpost (P : Program) (fp : List Nat) (I : Nat → World → Prop) (X : Code → World → Prop) (i : Nat) (A : World) : Exit → Act → World → Prop
  | .normal, _, B => I (i + 1) B ∧ Kept fp A B ∧ Stay A B
  | .ret, _, B => X .ret B ∧ Stay A B
  | .exit id, _, B => X (.exit id) B ∧ Stay A B
  | _, _, _ => False
theorem rangeFunc_wp {g : Operand} {ps : Array Tmp} {assign body : Code} {Q : Exit → Act → World → Prop} {a : Act} {w : World} {gf : Nat} {lb : Array Value}
    (hg : a.eval g = .func (.func gf) #[] lb) (eg : ∀ args w, (callFunc gf args).run P w = .ok (.enter gf args) w)
    {fp : List Nat} {lim : Prop} {N : Nat} {El : Nat → World → Array Value → Prop} (I : Nat → World → Prop) (X : Code → World → Prop) (hlim : ¬ lim → ∀ A, ¬ I N A)
    (hI : ∀ i A B, I i A → St ⟨P, A, []⟩ [] B → I i B) (hX : ∀ c A B, X c A → St ⟨P, A, []⟩ [] B → X c B)
    (hIp : ∀ i A l o o', w.heap.size ≤ l → A.heap[l]? = some o → cellsB o = false → I i A → I i (A.putObj l o')) (hXp : ∀ c A l o o', w.heap.size ≤ l → A.heap[l]? = some o → cellsB o = false → X c A → X c (A.putObj l o'))
    (hEl : ∀ i A B vs, El i A vs → Kept [] A B → El i B vs) (hps : ∀ i A vs, El i A vs → vs.size = ps.size)
    (h0 : ∀ o, I 0 ((w.alloc (.deferred (some []))).alloc o)) (hiter : ∀ o, Iter P gf lb ((w.alloc (.deferred (some []))).alloc o) fp lim N El)
    (hround : ∀ l i A vs, i < N → I i A → El i A vs → assign.wpIn (FR (some l)) 0 P (Exit.then (fun a1 A1 => St ⟨P, A, []⟩ [] A1 ∧ ∀ A2, Kept [] A1 A2 → I i A2 → El i A2 vs → body.wpIn (FR (some l)) 0 P (bpost P fp I X i A2) a1 A2) (fun _ _ _ => False))
      { tmps := (ps.zip vs).foldl (fun t (p, v) => t.setIfInBounds p v) a.tmps, defers := [] } A)
    (hdone : ∀ D W, w.heap.size ≤ D → I N W → W.heap[D]? = some (.deferred (some [])) → Q .normal { a with defers := markOf D :: a.defers } W)
    (hstop : ∀ D c W, w.heap.size ≤ D → X c W → W.heap[D]? = some (.deferred (some [])) → c.wpIn (FR none) 0 P Q { a with defers := markOf D :: a.defers } W) :
    (Code.rangeFunc g ps assign body).wpIn (FR none) 0 P Q a w := by
  refine wpIn_rangeFunc ?_
  intro fn hfn
  obtain ⟨rec, hrec⟩ : ∃ rec : LoopState → Option Code → Loop, rec = fun st pe => { state := st, pending := pe, fn, tmps := a.tmps, params := ps, assign, body, defers := w.heap.size } := ⟨_, rfl⟩
  obtain ⟨W1, hW1⟩ : ∃ W1, (w.alloc (.deferred (some []))).alloc (.loop (rec .ready none)) = W1 := ⟨_, rfl⟩
  have hL1 : W1.heap[w.heap.size + 1]? = some (.loop (rec .ready none)) := by
    rw [← hW1]; have := World.alloc_heap_new (w.alloc (.deferred (some []))) (.loop (rec .ready none)); rwa [World.size_alloc] at this
  have hK1 : W1.heap[w.heap.size]? = some (.deferred (some [])) := by
    rw [← hW1]; exact (old_heap _ _ _ (by simp)).trans (World.alloc_heap_new w _)
  have hI1 : I 0 W1 := by rw [← hW1]; exact h0 _
  have hk1 : Kept [] w W1 := by rw [← hW1]; exact (Kept.alloc w _).trans (Kept.alloc _ _)
  refine ⟨w.heap.size + 1, [markOf w.heap.size], W1, { target := .fn (.func gf) lb, args := #[.func (.yield (w.heap.size + 1)) #[] #[]] }, W1, gf,
    #[.func (.yield (w.heap.size + 1)) #[] #[]] ++ lb, W1, ?_, ?_, fun _ _ => trivial, ?_, fun h => by simp [FR] at h, ?_⟩
  · rw [← hW1, hrec]; exact run_enterLoop_outer _ _ _ _ _
  · simp only [resolve, hg]
    simp [go_sem]
  · simp [invoke, go_sem, eg]
  · refine ((hW1 ▸ hiter _ : Iter P gf lb W1 fp lim N El).raw (w.heap.size + 1)
      (fun i W => I i W ∧ W.heap[w.heap.size + 1]? = some (.loop (rec .ready none)) ∧ W.heap[w.heap.size]? = some (.deferred (some [])))
      (fun _ W => ∃ c, X c W ∧ W.heap[w.heap.size + 1]? = some (.loop (rec .done (some c))) ∧ W.heap[w.heap.size]? = some (.deferred (some [])))
      (fun i A B hj hst => ⟨hI i A B hj.1 hst, (hst.old _ (Array.getElem?_eq_some_iff.1 hj.2.1).1 (by simp)).trans hj.2.1, (hst.old _ (Array.getElem?_eq_some_iff.1 hj.2.2).1 (by simp)).trans hj.2.2⟩)
      (fun i A B hj hst => by
        obtain ⟨c, hc, hl, hd⟩ := hj
        exact ⟨c, hX c A B hc hst, (hst.old _ (Array.getElem?_eq_some_iff.1 hl).1 (by simp)).trans hl, (hst.old _ (Array.getElem?_eq_some_iff.1 hd).1 (by simp)).trans hd⟩)
      ?_ (fun hl A hj => hlim hl A hj.1) ⟨hI1, hL1, hK1⟩).mono ?_
    · rintro i A vs hlt ⟨hi, hl, hd⟩ he
      have hlen : w.heap.size + 1 < A.heap.size := (Array.getElem?_eq_some_iff.1 hl).1
      have hy := run_yield (P := P) (args := vs) hl (by rw [hrec]; exact hps i A vs he)
      rw [hrec] at hy
      refine ⟨fn, _, assign, body, hy, roundIn_of_wpIn hfn (wpIn_mono (hround (w.heap.size + 1) i A vs hlt hi he) ?_)⟩
      rintro e a1 A1 hp
      cases e with
      | normal =>
        obtain ⟨hst1, hbody⟩ := hp
        have hl1 : A1.heap[w.heap.size + 1]? = some (.loop (rec .ready none)) := (hst1.old _ hlen (by simp)).trans hl
        have hd1 : A1.heap[w.heap.size]? = some (.deferred (some [])) := (hst1.old _ (Nat.lt_of_succ_lt hlen) (by simp)).trans hd
        have hlen1 : w.heap.size + 1 < A1.heap.size := (Array.getElem?_eq_some_iff.1 hl1).1
        have hi1 : I i A1 := hI i A A1 hi hst1
        refine ⟨_, run_beginRound hl1 (by rw [hrec]), ?_⟩
        obtain ⟨A2, hA2⟩ : ∃ A2, A1.putObj (w.heap.size + 1) (.loop { rec .ready none with state := .busy }) = A2 := ⟨_, rfl⟩
        have hl2 : A2.heap[w.heap.size + 1]? = some (.loop { rec .ready none with state := .busy }) := by rw [← hA2]; exact World.putObj_heap_same hlen1
        have hd2 : A2.heap[w.heap.size]? = some (.deferred (some [])) := by rw [← hA2]; exact (World.putObj_heap_other (by omega)).trans hd1
        have hk2 : Kept [] A1 A2 := by rw [← hA2]; exact Kept.put hl1 rfl
        have hi2 : I i A2 := by rw [← hA2]; exact hIp i A1 _ _ _ (by omega) hl1 rfl hi1
        rw [hA2]
        refine wpIn_mono (hbody A2 hk2 hi2 (hEl i A A2 vs he ((Kept.of hst1).trans hk2))) ?_
        have fin : ∀ (jump : Option Code) (B : World), Stay A2 B →
            (Instr.endRound (w.heap.size + 1) jump).run P B = .ok (.bool jump.isNone) (B.putObj (w.heap.size + 1) (.loop (rec (if jump.isNone then .ready else .done) jump))) ∧
            B.heap[w.heap.size + 1]? = some (.loop { rec .ready none with state := .busy }) ∧
            (B.putObj (w.heap.size + 1) (.loop (rec (if jump.isNone then .ready else .done) jump))).heap[w.heap.size + 1]? = some (.loop (rec (if jump.isNone then .ready else .done) jump)) ∧
            (B.putObj (w.heap.size + 1) (.loop (rec (if jump.isNone then .ready else .done) jump))).heap[w.heap.size]? = some (.deferred (some [])) := fun jump B hn => by
          have hl3 := hn _ _ hl2 rfl
          have := run_endRound (P := P) jump hl3
          rw [hrec] at this ⊢
          exact ⟨this, by rw [hrec] at hl3; exact hl3, World.putObj_heap_same (Array.getElem?_eq_some_iff.1 hl3).1, (World.putObj_heap_other (by omega)).trans (hn _ _ hd2 rfl)⟩
        rintro e a3 B hp
        cases e with
        | normal =>
          obtain ⟨hi3, hk3, hn3⟩ := hp
          obtain ⟨hr, hl3, hl4, hd4⟩ := fin none B hn3
          exact ⟨_, _, hr, .inl ⟨rfl, ⟨hIp _ _ _ _ _ (by omega) hl3 rfl hi3, hl4, hd4⟩, (((Kept.of hst1).trans hk2).none.trans hk3).trans (Kept.put hl3 rfl).none⟩⟩
        | ret =>
          obtain ⟨hx3, hn3⟩ := hp
          obtain ⟨hr, hl3, hl4, hd4⟩ := fin (some .ret) B hn3
          exact ⟨_, _, hr, .inr ⟨rfl, .ret, hXp _ _ _ _ _ (by omega) hl3 rfl hx3, hl4, hd4⟩⟩
        | exit id =>
          obtain ⟨hx3, hn3⟩ := hp
          obtain ⟨hr, hl3, hl4, hd4⟩ := fin (some (.exit id)) B hn3
          exact ⟨_, _, hr, .inr ⟨rfl, .exit id, hXp _ _ _ _ _ (by omega) hl3 rfl hx3, hl4, hd4⟩⟩
        | goto t => exact hp.elim
        | panic ch => exact hp.elim
        | outgrown => exact hp.elim
      | _ => exact hp.elim
    · rintro e W2 ⟨⟨v, rfl⟩, (⟨hi, hl, hd⟩ | ⟨i, c, hx, hl, hd⟩)⟩
      · exact ⟨none, _, by have := run_endLoop (P := P) hl (by rw [hrec]; simp); rw [hrec] at this; exact this, hdone _ _ (Nat.le_refl _) (hIp _ _ _ _ _ (by omega) hl rfl hi) ((World.putObj_heap_other (by omega)).trans hd)⟩
      · exact ⟨some c, _, by have := run_endLoop (P := P) hl (by rw [hrec]; simp); rw [hrec] at this; exact this, hstop _ c _ (Nat.le_refl _) (hXp _ _ _ _ _ (by omega) hl rfl hx) ((World.putObj_heap_other (by omega)).trans hd)⟩
end
section
set_option linter.unusedVariables false
set_option linter.unusedSimpArgs false
open Go
variable {G : Cx} {T : Tab} {r : Option Nat} {ds : List Deferred}

/-! ### Code behind one another -/
def headC : Nat → Code → List Code
  | n + 1, .seq x y => x :: headC n y
  | _, _ => []
def restC : Nat → Code → Code
  | n + 1, .seq x y => restC n y
  | _, c => c
def chainVC (G : Cx) (T : Tab) (N : Nat) : List Code → Env → Hp → (Env → Hp → Prop) → (Nat → Env → Hp → Prop) → (Env → Hp → Prop) → Prop
  | [], env, hs, K, _, _ => K env hs
  | x :: r, env, hs, K, X, R => codeVC G T N x env hs (fun env' hs' => chainVC G T N r env' hs' K X R) X R
theorem chain_sound (hT : TabOK G.P T) {N : Nat} {K : Env → Hp → Prop} {X : Nat → Env → Hp → Prop} {R : Env → Hp → Prop} {Q : Exit → Act → World → Prop} :
    ∀ (n : Nat) (c : Code) (env : Env) (hs : Hp) (a : Act) (w : World), chainVC G T N (headC n c) env hs K X R →
      (∀ env hs a w, K env hs → Fits ds N env a → St G hs w → (restC n c).wpIn (FR r) 0 G.P Q a w) →
      (∀ id env hs a w, X id env hs → Fits ds N env a → St G hs w → Q (.exit id) a w) → (∀ env hs a w, R env hs → Fits ds N env a → St G hs w → Q .ret a w) →
      Fits ds N env a → St G hs w → c.wpIn (FR r) 0 G.P Q a w := by
  intro n
  induction n with
  | zero => intro c env hs a w h hK hX hR hf hw; exact hK env hs a w h hf hw
  | succ n ih =>
    intro c env hs a w h hK hX hR hf hw
    cases c with
    | seq x y =>
      refine wpIn_seq (codeVC_sound hT x _ _ _ _ _ _ _ _ h ⟨fun env' hs' a' w' hk hf' hw' => ?_, fun id env' hs' a' w' hk hf' hw' => hX _ _ _ _ _ hk hf' hw', fun env' hs' a' w' hk hf' hw' => hR _ _ _ _ hk hf' hw'⟩ hf hw)
      exact ih y env' hs' a' w' hk hK hX hR hf' hw'
    | _ => exact hK env hs a w h hf hw

/-! ### The loop -/
theorem Fits.push {N : Nat} {env : Env} {t : Array Value} (h : Fits ds N env { tmps := t, defers := ds }) (p : Nat) (v : Value) (hp : p < N) : Fits ds N ((p, v) :: env) { tmps := t.setIfInBounds p v, defers := ds } := by
  refine ⟨by rw [Array.size_setIfInBounds]; exact h.size, rfl, fun i u hi => ?_⟩
  have hsz : t.size = N := h.size
  show (t.setIfInBounds p v)[i]? = some u
  simp only [lk] at hi
  split at hi
  · rename_i hb
    obtain rfl := Nat.eq_of_beq_eq_true hb
    rw [Array.getElem?_setIfInBounds, if_pos rfl, if_pos (by omega)]
    exact hi
  · rename_i hb
    rw [Array.getElem?_setIfInBounds, if_neg (by rintro rfl; rw [Nat.beq_refl] at hb; cases hb)]
    exact h.has i u hi
def pushEnv (env : Env) : List (Nat × Value) → Env
  | [] => env
  | (p, v) :: r => pushEnv ((p, v) :: env) r
theorem Fits.pushes {N : Nat} : ∀ (l : List (Nat × Value)) {env : Env} {t : Array Value}, Fits ds N env { tmps := t, defers := ds } → (∀ p ∈ l, p.1 < N) →
    Fits ds N (pushEnv env l) { tmps := l.foldl (fun t (p, v) => t.setIfInBounds p v) t, defers := ds }
  | [], env, t, h, _ => h
  | (p, v) :: r, env, t, h, hl => Fits.pushes r (h.push p v (hl _ (List.Mem.head _))) fun q hq => hl q (List.Mem.tail _ hq)
theorem stay_of {hs hs' : Hp} {A B : World} (hw : St G hs A) (h : St ⟨G.P, A, ids hs⟩ hs' B) : Stay A B := by
  intro b o hb ho
  refine (h.old b (Array.getElem?_eq_some_iff.1 hb).1 (fun hm => ?_)).trans hb
  obtain ⟨e, he, rfl⟩ := List.mem_map.1 hm
  rw [hw.own e he] at hb
  cases hb
  cases ho
theorem rangeFunc_vc (hT : TabOK G.P T) {Nt : Nat} {g : Operand} {ps : Array Tmp} {assign body : Code} {Q : Exit → Act → World → Prop} {env : Env} {a : Act} {w : World} {hs0 : Hp} {gf : Nat} {lb : Array Value}
    (hf : Fits [] Nt env a) (hw : St G hs0 w) (hg : ev env g = some (.func (.func gf) #[] lb)) (eg : ∀ args w, (callFunc gf args).run G.P w = .ok (.enter gf args) w)
    {fp : List Nat} {lim : Prop} {N : Nat} {El : Nat → World → Array Value → Prop} (I : Nat → Hp → World → Prop) (X : Code → Hp → World → Prop) (hlim : ¬ lim → ∀ hs A, ¬ I N hs A)
    (hI : ∀ i hs A B, I i hs A → Kept [] A B → I i hs B) (hX : ∀ c hs A B, X c hs A → Kept [] A B → X c hs B)
    (hfp : ∀ i hs A, I i hs A → ∀ b ∈ ids hs, b ∈ fp)
    (hEl : ∀ i A B vs, El i A vs → Kept [] A B → El i B vs) (hps : ∀ i A vs, El i A vs → vs.size = ps.size) (hpt : ∀ p ∈ ps.toList, p < Nt)
    (h0 : I 0 hs0 w) (hiter : ∀ W1, Kept [] w W1 → St G hs0 W1 → w.heap.size ≤ W1.heap.size → Iter G.P gf lb W1 fp lim N El) (e1 : Array Value → Env)
    (hassign : ∀ i A vs, El i A vs → codeVC ⟨G.P, A, []⟩ T Nt assign (pushEnv env (ps.toList.zip vs.toList)) [] (fun e _ => Done (Sub (e1 vs) e)) (fun _ _ _ => False) (fun _ _ => False))
    (hbody : ∀ i A vs hs, i < N → I i hs A → St G hs A → El i A vs → codeVC ⟨G.P, A, ids hs⟩ T Nt body (e1 vs) hs (fun _ hs' => Done (∀ B, Kept fp A B → I (i + 1) hs' B)) (fun id _ hs' => Done (∀ B, Kept fp A B → X (.exit id) hs' B)) (fun _ hs' => Done (∀ B, Kept fp A B → X .ret hs' B)))
    (hdone : ∀ D W hs a', I N hs W → St G hs W → W.heap[D]? = some (.deferred (some [])) → G.w0.heap.size ≤ D → Fits [markOf D] Nt env a' → Q .normal a' W)
    (hstop : ∀ D c W hs a', X c hs W → St G hs W → W.heap[D]? = some (.deferred (some [])) → G.w0.heap.size ≤ D → Fits [markOf D] Nt env a' → c.wpIn (FR none) 0 G.P Q a' W) :
    (Code.rangeFunc g ps assign body).wpIn (FR none) 0 G.P Q a w := by
  have hd : ∀ D, Fits [markOf D] Nt env { a with defers := markOf D :: a.defers } := fun D => ⟨hf.size, by rw [hf.defers], hf.has⟩
  have st : ∀ {A B : World}, St ⟨G.P, A, []⟩ [] B → ∀ {hs : Hp}, St G hs A → St G hs B := fun h hs hst => by
    have := hst.trans h
    rwa [List.nil_append] at this
  refine rangeFunc_wp (fp := fp) (lim := lim) (N := N) (El := El) (hf.agrees _ _ hg) eg (fun i W => ∃ hs, I i hs W ∧ St G hs W) (fun c W => ∃ hs, X c hs W ∧ St G hs W) (fun hl A ⟨hs, h1, _⟩ => hlim hl hs A h1) ?_ ?_ ?_ ?_ hEl hps ?_ ?_ ?_ ?_ ?_
  · rintro i A B ⟨hs, h1, h2⟩ hk
    exact ⟨hs, hI _ _ _ _ h1 (Kept.of hk), st hk h2⟩
  · rintro c A B ⟨hs, h1, h2⟩ hk
    exact ⟨hs, hX _ _ _ _ h1 (Kept.of hk), st hk h2⟩
  · rintro i A l o o' hl hb ho ⟨hs, h1, h2⟩
    exact ⟨hs, hI _ _ _ _ h1 (Kept.put hb ho), h2.putObj hb ho (Nat.le_trans hw.size hl)⟩
  · rintro c A l o o' hl hb ho ⟨hs, h1, h2⟩
    exact ⟨hs, hX _ _ _ _ h1 (Kept.put hb ho), h2.putObj hb ho (Nat.le_trans hw.size hl)⟩
  · exact fun o => ⟨hs0, hI _ _ _ _ h0 ((Kept.alloc _ _).trans (Kept.alloc _ _)), (hw.allocObj _).allocObj _⟩
  · exact fun o => hiter _ ((Kept.alloc _ _).trans (Kept.alloc _ _)) ((hw.allocObj _).allocObj _) (by rw [World.size_alloc, World.size_alloc]; omega)
  · rintro l i A vs hlt ⟨hs, h1, h2⟩ he
    have hfit : Fits [] Nt (pushEnv env (ps.toList.zip vs.toList)) { tmps := (ps.zip vs).foldl (fun t (p, v) => t.setIfInBounds p v) a.tmps, defers := [] } := by
      have hb : Fits [] Nt env { tmps := a.tmps, defers := [] } := ⟨hf.size, rfl, hf.has⟩
      rw [← Array.foldl_toList, Array.toList_zip]
      exact hb.pushes (ps.toList.zip vs.toList) (fun p hp => hpt _ (List.of_mem_zip (show (p.1, p.2) ∈ _ from hp)).1)
    refine codeVC_sound (G := ⟨G.P, A, []⟩) (ds := []) hT assign _ _ _ _ _ _ _ _ (hassign i A vs he) ⟨fun env' hs' a1 A1 hk hf1 hw1 => ?_, fun id env' hs' a1 A1 hk _ _ => hk.elim, fun env' hs' a1 A1 hk _ _ => hk.elim⟩ hfit (st_self _ _)
    refine ⟨hw1.sub (List.nil_sublist _), fun A2 hk2 hi2 he2 => ?_⟩
    obtain ⟨hs2, h3, h4⟩ := hi2
    refine codeVC_sound (G := ⟨G.P, A2, ids hs2⟩) (ds := []) hT body _ _ _ _ _ _ _ _ (hbody i A2 vs hs2 hlt h3 h4 he2) ⟨fun env' hs' a3 B hk hf3 hw3 => ?_, fun id env' hs' a3 B hk hf3 hw3 => ?_, fun env' hs' a3 B hk hf3 hw3 => ?_⟩ (hf1.sub hk.out) h4.here
    · have hkb : Kept fp A2 B := (Kept.of hw3).wide (hfp _ _ _ h3)
      exact ⟨⟨hs', hk.out B hkb, h4.thru hw3⟩, hkb, stay_of h4 hw3⟩
    · have hkb : Kept fp A2 B := (Kept.of hw3).wide (hfp _ _ _ h3)
      exact ⟨⟨hs', hk.out B hkb, h4.thru hw3⟩, stay_of h4 hw3⟩
    · have hkb : Kept fp A2 B := (Kept.of hw3).wide (hfp _ _ _ h3)
      exact ⟨⟨hs', hk.out B hkb, h4.thru hw3⟩, stay_of h4 hw3⟩
  · rintro D W hD ⟨hs, h1, h2⟩ hdW
    exact hdone D W hs _ h1 h2 hdW (Nat.le_trans hw.size hD) (hd D)
  · rintro D c W hD ⟨hs, h1, h2⟩ hdW
    exact hstop D c W hs _ h1 h2 hdW (Nat.le_trans hw.size hD) (hd D)

/-! ### The end of a function that has a mark -/
def tmpsB : List ResultVar → Bool
  | [] => true
  | .tmp _ :: r => tmpsB r
  | _ :: _ => false
theorem ress_any {G' : Cx} {env : Env} {hs hs' : Hp} : ∀ (l : List ResultVar) (K : List Value → Prop), tmpsB l = true → ressK G T env hs K l → ressK G' T env hs' K l
  | [], K, _, h => h
  | .tmp t :: r, K, hl, h => by
    obtain ⟨v, hv, h⟩ := evK_some (show evK env (.tmp t) _ from h)
    show evK env (.tmp t) _
    unfold evK
    rw [hv]
    exact ress_any r _ hl h
  | .cell _ _ :: _, _, hl, _ => by cases hl
/-- Behind the loop: on in the world that it left. -/
theorem behind_vc (hT : TabOK G.P T) {fn : Func} {c : Code} {env : Env} {hs : Hp} {a : Act} {W : World} {D : Nat} {K : Value → Hp → Prop} (hr : tmpsB fn.results.toList = true)
    (hf : Fits [markOf D] fn.ntmps env a) (hw : St G hs W) (hD : W.heap[D]? = some (.deferred (some []))) (hn : G.w0.heap.size ≤ D)
    (h : codeVC ⟨G.P, W, ids hs⟩ T fn.ntmps c env hs (retK ⟨G.P, W, ids hs⟩ T fn.results.toList fun v hs => Done (K v hs)) (fun _ _ _ => False) (retK ⟨G.P, W, ids hs⟩ T fn.results.toList fun v hs => Done (K v hs))) :
    c.wpIn (FR none) 0 G.P (bodyPostM (FR none) 0 G.P fn (Post G K)) a W := by
  have fin : ∀ env' hs' a' w', retK ⟨G.P, W, ids hs⟩ T fn.results.toList (fun v hs => Done (K v hs)) env' hs' → Fits [markOf D] fn.ntmps env' a' → St ⟨G.P, W, ids hs⟩ hs' w' → LeavesInM (FR none) 0 G.P fn a'.tmps (Post G K) a'.defers .returning w' := by
    intro env' hs' a' w' hk hf' hw'
    have hD' : w'.heap[D]? = some (.deferred (some [])) := stay_of hw hw' D _ hD rfl
    have hst : St G hs' (w'.putObj D (.deferred none)) := (hw.thru hw').putObj hD' rfl hn
    obtain ⟨v, h1, h2⟩ := retK_out (G := G) hT hf' hst (K := fun v hs => Done (K v hs)) (ress_any _ _ hr hk)
    rw [hf'.defers]
    exact ⟨by simp, .inl ⟨D, _, rfl, run_takeDeferred hD', v, h1, v, hs', rfl, h2.out, hst⟩⟩
  exact codeVC_sound (G := ⟨G.P, W, ids hs⟩) (ds := [markOf D]) hT c _ _ _ _ _ _ _ _ h ⟨fun env' hs' a' w' hk hf' hw' => fin _ _ _ _ hk hf' hw', fun id env' hs' a' w' hk _ _ => hk.elim, fun env' hs' a' w' hk hf' hw' => fin _ _ _ _ hk hf' hw'⟩ hf hw.here
/-- Ahead of it: a return. -/
theorem ahead_ret (hT : TabOK G.P T) {fn : Func} {env : Env} {hs : Hp} {a : Act} {w : World} {K : Value → Hp → Prop} (hk : retK G T fn.results.toList (fun v hs => Done (K v hs)) env hs) (hf : Fits [] fn.ntmps env a) (hw : St G hs w) :
    bodyPostM (FR none) 0 G.P fn (Post G K) .ret a w := by
  obtain ⟨v, h1, h2⟩ := retK_out hT hf hw hk
  show LeavesInM (FR none) 0 G.P fn a.tmps (Post G K) a.defers .returning w
  rw [hf.defers]
  exact ⟨v, h1, v, hs, rfl, h2.out, hw⟩
theorem fits_enter {N : Nat} {args : List Value} (hn : args.length ≤ N) : Fits [] N (mkEnv args 0) { tmps := args.toArray ++ Array.replicate (N - args.toArray.size) undef, defers := [] } := by
  refine ⟨by simp; omega, rfl, fun i v hi => ?_⟩
  obtain ⟨_, h2⟩ := mkEnv_lk args 0 i v hi
  show (args.toArray ++ Array.replicate (N - args.toArray.size) undef)[i]? = some v
  have hlt : i < args.length := by
    have := (List.getElem?_eq_some_iff.1 h2).1
    omega
  rw [Array.getElem?_append_left (by simpa using hlt)]
  simpa using h2
theorem ret_marks {P : Program} {f : Nat} {fn : Func} {c : Code} {args : List Value} {w : World} {K : Value → Hp → Prop} (hfn : P.funcs[f]? = some fn) (hb : fn.body = some c) (hn : Nat.ble args.length fn.ntmps = true)
    (h : ∀ a, Fits [] fn.ntmps (mkEnv args 0) a → St ⟨P, w, []⟩ [] w → c.wpIn (FR none) 0 P (bodyPostM (FR none) 0 P fn (Post ⟨P, w, []⟩ K)) a w) : Ret P f args w K :=
  ⟨callsIn_wide.1 (callsIn_of_wp_marks (n := 0) hfn hb trivial (h _ (fits_enter (Nat.le_of_ble_eq_true hn)) (st_self _ _)))⟩

/-! ### An iterator -/
theorem yield_wp {P : Program} {o : Oper} {c : Call} {x : Operand} (ho : o.op = .call c) (hcal : c.callee = .value x) {a : Act} {w : World} {l : Nat} (hf : a.eval x = .func (.yield l) #[] #[]) {next : Act → World → Prop} {Q : Exit → Act → World → Prop} {R : Ending → World → Prop}
    (hy : YieldAt (FR none) 0 P l (c.args.map a.eval) w R) (hn : ∀ e B, R e B → ∃ v, e = .returned v ∧ next (a.put o.dst v) B) : o.wpIn (FR none) 0 P a w next Q := by
  unfold Oper.wpIn
  refine ⟨fun _ _ => trivial, ?_⟩
  rw [Oper.semAt_eq _ _ _ (fun c' hc' => by rw [ho] at hc'; cases hc')]
  obtain ⟨fn, tmps, assign, body, hrun, hround⟩ := hy
  have hr : (execOp a.eval o).run P w = .ok (.round l fn tmps assign body) w := by
    simp only [execOp, ho, resolve, hcal, hf, Deferred.ofValue, bind, Sem.bind, pure, invoke]
    simpa using hrun
  rw [hr, Oper.uponIn_round]
  refine ⟨fun h => by simp [FR] at h, hround.mono ?_⟩
  intro e B hR
  obtain ⟨v, rfl, hq⟩ := hn e B hR
  exact hq
theorem ops_pre (hT : TabOK G.P T) {N : Nat} (all : List Oper) {Q : Exit → Act → World → Prop} {K : Env → Hp → Prop} (rest : List Nat)
    (hK : ∀ env hs a w, K env hs → Fits ds N env a → St G hs w → wpOpsIn (FR r) 0 G.P all.toArray Q rest a w) :
    ∀ (l : List Oper) (k : Nat) (env : Env) (hs : Hp) (a : Act) (w : World), (∀ i, i < l.length → l[i]? = all[k + i]?) → opsVC G T N all l env hs K → Fits ds N env a → St G hs w →
      wpOpsIn (FR r) 0 G.P all.toArray Q (List.range' k l.length ++ rest) a w
  | [], k, env, hs, a, w, _, h, hf, hw => hK _ _ _ _ h hf hw
  | o :: q, k, env, hs, a, w, hl, h, hf, hw => by
    have h0 : all.toArray[k]? = some o := by rw [List.getElem?_toArray]; simpa using (hl 0 (by simp)).symm
    have hr : ∀ i, i < q.length → q[i]? = all[k + 1 + i]? := fun i hi => by have := hl (i + 1) (by simpa using hi); simpa [Nat.add_assoc, Nat.add_comm 1 i] using this
    simp only [List.length_cons, List.range'_succ, List.cons_append]
    rw [wpOpsIn_cons]
    unfold wpOpIn
    rw [h0]
    dsimp only
    rcases guardK_out hf h with ⟨hwt, hrun⟩ | ⟨hwt, hskip⟩
    · rw [if_pos hwt]
      refine op_wp (evc_sound hT hf.agrees hrun) hw ?_
      intro v hs' w' hk hw'
      obtain ⟨env', hk', hf'⟩ := dstK_out hf hk
      exact ops_pre hT all rest hK q (k + 1) env' hs' _ w' hr hk' hf' hw'
    · rw [if_neg (by rw [hwt]; exact Bool.false_ne_true)]
      obtain ⟨env', hk', hf'⟩ := dstK_out hf hskip
      exact ⟨fun _ _ => trivial, ops_pre hT all rest hK q (k + 1) env' hs _ w hr hk' hf' hw⟩
/-- A region in which yield is called: what is ahead of the call, the call, and what is behind it, in the world that it left. -/
theorem region_yield (hT : TabOK G.P T) {N id : Nat} {ops : Array Oper} {Q : Exit → Act → World → Prop} {env : Env} {hs : Hp} {a : Act} {w : World} (l1 : List Oper) (o : Oper) (l2 : List Oper) (c : Call) (x : Operand) (e1 : Env) (hs1 : Hp) (l : Nat) (vs : Array Value) (R : World → Ending → World → Prop)
    (hsplit : ops.toList = l1 ++ o :: l2) (hg : o.guard = none) (ho : o.op = .call c) (hcal : c.callee = .value x) (h1 : opsVC G T N ops.toList l1 env hs fun env' hs' => Done (Sub e1 env' ∧ hs1.Sublist hs')) (hf : Fits ds N env a) (hw : St G hs w)
    (hx : ev e1 x = some (.func (.yield l) #[] #[])) (hvs : ∀ ρ, Agrees ρ e1 → c.args.map ρ = vs) (hy : ∀ w1, St G hs1 w1 → YieldAt (FR none) 0 G.P l vs w1 (R w1))
    (hn : ∀ w1 e B, St G hs1 w1 → R w1 e B → ∃ v, e = .returned v ∧ ∃ K2, dstK N o.dst v e1 (fun env2 => opsVC ⟨G.P, B, []⟩ T N ops.toList l2 env2 [] K2) ∧ ∀ env3 hs3 a3 w3, K2 env3 hs3 → Fits ds N env3 a3 → St ⟨G.P, B, []⟩ hs3 w3 → Q .normal a3 w3) :
    (Code.region id ops false).wpIn (FR none) 0 G.P Q a w := by
  refine wpIn_region ?_
  have hlen : ops.size = l1.length + (l2.length + 1) := by
    have := congrArg List.length hsplit
    simpa using this
  have hat : ∀ i, ops.toList[l1.length + i]? = (o :: l2)[i]? := fun i => by
    rw [hsplit, List.getElem?_append_right (by omega), Nat.add_sub_cancel_left]
  have := ops_pre (r := none) hT ops.toList (Q := Q) (List.range' l1.length (l2.length + 1)) (ds := ds) (N := N) ?_ l1 0 env hs a w (fun i hi => by rw [Nat.zero_add, hsplit, List.getElem?_append_left hi]) h1 hf hw
  · rw [Array.toArray_toList] at this
    rw [List.range_eq_range', hlen, ← List.range'_append_1, Nat.zero_add]
    exact this
  · intro env1 hs1' a1 w1 hk1 hf1 hw1
    obtain ⟨hsub, hsl⟩ := hk1.out
    replace hf1 := hf1.sub hsub
    replace hw1 := hw1.sub hsl
    rw [List.range'_succ, wpOpsIn_cons]
    unfold wpOpIn
    have h0 : ops.toList.toArray[l1.length]? = some o := by rw [List.getElem?_toArray]; simpa using hat 0
    rw [h0]
    dsimp only
    rw [if_pos (by unfold Region.wanted; rw [hg])]
    refine yield_wp ho hcal (hf1.agrees _ _ hx) (by rw [hvs _ hf1.agrees]; exact hy w1 hw1) ?_
    intro e B hR
    obtain ⟨v, rfl, K2, hd, hfin⟩ := hn w1 e B hw1 hR
    refine ⟨v, rfl, ?_⟩
    obtain ⟨env2, h2, hf2⟩ := dstK_out hf1 hd
    refine opsVC_sound (G := ⟨G.P, B, []⟩) hT ops.toList (Q := Q) (K := K2) (ds := ds) (N := N) (fun env3 hs3 a3 w3 hk3 hf3 hw3 => hfin env3 hs3 a3 w3 hk3 hf3 hw3) l2 (l1.length + 1) env2 [] _ B (fun i => ?_) h2 hf2 (st_self _ _)
    have := hat (i + 1)
    rw [show l1.length + 1 + i = l1.length + (i + 1) by omega, this]
    simp
/-- An iterator's contract out of its walk. -/
theorem iter_vc {P : Program} {f : Nat} {fn : Func} {c : Code} {lb : List Value} {W1 : World} {fp : List Nat} {lim : Prop} {N : Nat} {El : Nat → World → Array Value → Prop} (hfn : P.funcs[f]? = some fn) (hb : fn.body = some c) (hr : fn.results = #[]) (hn : Nat.ble (lb.length + 1) fn.ntmps = true)
    (h : ∀ (l : Nat) (J Jx : Nat → World → Prop), (∀ i A B, J i A → St ⟨P, A, []⟩ [] B → J i B) → (∀ i A B, Jx i A → St ⟨P, A, []⟩ [] B → Jx i B) →
      (∀ i A vs, i < N → J i A → El i A vs → YieldAt (FR none) 0 P l vs A fun e B => (e = .returned (.bool true) ∧ J (i + 1) B ∧ Kept fp A B) ∨ (e = .returned (.bool false) ∧ Jx (i + 1) B)) →
      (¬ lim → ∀ A, ¬ J N A) → J 0 W1 → ∀ a, Fits [] fn.ntmps (mkEnv (.func (.yield l) #[] #[] :: lb) 0) a →
      c.wpIn (FR none) 0 P (fun e a' W' => (e = .normal ∨ e = .ret) ∧ a'.defers = [] ∧ (J N W' ∨ ∃ i, Jx i W')) a W1) : Iter P f lb.toArray W1 fp lim N El := by
  refine ⟨fun l J Jx hJ hJx hy hlim h0 => ?_⟩
  have e1 : #[Value.func (.yield l) #[] #[]] ++ lb.toArray = (Value.func (.yield l) #[] #[] :: lb).toArray := by simp
  rw [e1]
  refine callsIn_of_wp_marks (n := 0) hfn hb trivial (wpIn_mono (h l J Jx hJ hJx hy hlim h0 _ (fits_enter (args := .func (.yield l) #[] #[] :: lb) (by simpa using Nat.le_of_ble_eq_true hn))) ?_)
  rintro e a' W' ⟨he, hd, hj⟩
  have fin : LeavesInM (FR none) 0 P fn a'.tmps (fun e W' => (∃ v, e = .returned v) ∧ (J N W' ∨ ∃ i, Jx i W')) a'.defers .returning W' := by
    rw [hd]
    exact ⟨.tuple #[], by simp [results, hr], ⟨_, rfl⟩, hj⟩
  rcases he with rfl | rfl <;> exact fin
/-- Onto a row of the call's own that has room: in its place. -/
theorem AppendVC.stay {hs : Hp} {t tx e n m b cap : Nat} {j : TyI} {x : Value} {xs ys : List B8} {r : List Value} {fr : Nat × Nat} {rest : Hp} {K : Value → Hp → Prop} (hT : TabOK G.P T) (ht : ApT T t tx e j) (h1 : j.size = 1)
    (hm : Take ⟨b, xs.map b8 ++ r, e, fr⟩ hs rest) (hfr : Soft fr (xs.map b8 ++ r).length) (hcap : (xs.map b8 ++ r).length = cap) (hn : xs.length = n) (hx : Holds G hs 1 x m (ys.map b8)) (hfit : n + m ≤ cap)
    (h : ∀ r', ((xs ++ ys).map b8 ++ r').length = cap → K (.slice (some ⟨b, 0, none⟩) (n + m) cap) (⟨b, (xs ++ ys).map b8 ++ r', e, fr⟩ :: rest)) :
    AppendVC G hs t tx (.slice (some ⟨b, 0, none⟩) n cap) x K := by
  obtain ⟨i, hi, hd⟩ := ht.dst
  obtain ⟨l, hl, hld⟩ := ht.src
  have hmem : (⟨b, xs.map b8 ++ r, e, fr⟩ : Ent) ∈ hs := hm.perm.mem_iff.2 (List.mem_cons_self ..)
  have hylen := hx.len
  rw [List.length_map, Nat.mul_one] at hylen
  have key : AppendVC G hs t tx (.slice (some ⟨b, 0, none⟩) n cap) x (fun v hs' => ∀ w, St G hs' w → ∃ hs'', St G hs'' w ∧ K v hs'') := by
    refine AppendVC.any hT hi hd ht.elem hl hld (by rw [h1]; exact Holds.own hmem 0 (by rw [List.drop_zero, ← hn, ← List.length_map (f := b8), List.take_left]) (by simpa using hn)) (by rw [h1]; exact hx) ht.b1 (fun hlt => by omega) (fun hlt => by omega) (fun hfit => ⟨(fun hb => by cases hb), fun a ha => ?_⟩)
    cases ha
    rw [StoreVC_eq]
    have hu : Upd ⟨b, xs.map b8 ++ r, e, fr⟩ ⟨b, layL (ys.map b8) (xs.map b8 ++ r) n, e, fr⟩ (⟨b, xs.map b8 ++ r, e, fr⟩ :: rest) (⟨b, layL (ys.map b8) (xs.map b8 ++ r) n, e, fr⟩ :: rest) := .head _
    have hroom : n + (ys.map b8).length ≤ (xs.map b8 ++ r).length := by rw [List.length_map]; omega
    have hst := storeCells_does (G := G) (fr := fr) (b := b) (ys.map b8) (xs.map b8 ++ r) n 0 _ _ (ones_b _) (by omega) (fun k _ hk => hfr.at_ (by omega)) (by rw [Nat.add_zero]; exact hu)
    rw [h1, add_plain, Nat.zero_add, Nat.mul_one]
    refine Does.perm hm.perm (hst.mono fun _ h' he => ?_)
    subst he
    intro w hw
    have e1 : layL (ys.map b8) (xs.map b8 ++ r) n = (xs ++ ys).map b8 ++ r.drop m := by
      have t1 : (xs.map b8 ++ r).take n = xs.map b8 := by rw [← hn, ← List.length_map (f := b8), List.take_left]
      have t2 : (xs.map b8 ++ r).drop (n + m) = r.drop m := by
        rw [← hn, ← List.length_map (f := b8), List.drop_append, List.drop_of_length_le (by omega), List.nil_append]
        congr 1; omega
      rw [layL_eq _ _ _ hroom, List.length_map, hylen, t1, t2, List.map_append]
    rw [e1] at hw
    refine ⟨_, hw, h _ ?_⟩
    rw [← e1, layL_len]; exact hcap
  rw [AppendVC_eq] at key ⊢
  intro ty
  exact (key ty).turn fun v hs' w hk hw => hk w hw
end
end Go.Proofs.YtnlheljpagpiiaaGreat
