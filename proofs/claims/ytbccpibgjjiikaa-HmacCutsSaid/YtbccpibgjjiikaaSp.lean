/-
  The digest and the tag as functions of bytes, and what is known of them: no program in sight.
-/
set_option maxRecDepth 100000
namespace Go.Proofs.Ytbccpibgjjiikaa
abbrev B8 := BitVec 8
abbrev W32 := BitVec 32
def ror (x : W32) (n : Nat) : W32 := x >>> n ||| x <<< (32 - n)
def great0 (x : W32) : W32 := ror x 2 ^^^ ror x 13 ^^^ ror x 22
def great1 (x : W32) : W32 := ror x 6 ^^^ ror x 11 ^^^ ror x 25
def small0 (x : W32) : W32 := ror x 7 ^^^ ror x 18 ^^^ x >>> 3
def small1 (x : W32) : W32 := ror x 17 ^^^ ror x 19 ^^^ x >>> 10
def table : List W32 := [
  0x428a2f98, 0x71374491, 0xb5c0fbcf, 0xe9b5dba5, 0x3956c25b, 0x59f111f1, 0x923f82a4, 0xab1c5ed5,
  0xd807aa98, 0x12835b01, 0x243185be, 0x550c7dc3, 0x72be5d74, 0x80deb1fe, 0x9bdc06a7, 0xc19bf174,
  0xe49b69c1, 0xefbe4786, 0x0fc19dc6, 0x240ca1cc, 0x2de92c6f, 0x4a7484aa, 0x5cb0a9dc, 0x76f988da,
  0x983e5152, 0xa831c66d, 0xb00327c8, 0xbf597fc7, 0xc6e00bf3, 0xd5a79147, 0x06ca6351, 0x14292967,
  0x27b70a85, 0x2e1b2138, 0x4d2c6dfc, 0x53380d13, 0x650a7354, 0x766a0abb, 0x81c2c92e, 0x92722c85,
  0xa2bfe8a1, 0xa81a664b, 0xc24b8b70, 0xc76c51a3, 0xd192e819, 0xd6990624, 0xf40e3585, 0x106aa070,
  0x19a4c116, 0x1e376c08, 0x2748774c, 0x34b0bcb5, 0x391c0cb3, 0x4ed8aa4a, 0x5b9cca4f, 0x682e6ff3,
  0x748f82ee, 0x78a5636f, 0x84c87814, 0x8cc70208, 0x90befffa, 0xa4506ceb, 0xbef9a3f7, 0xc67178f2]
def be (a b c d : B8) : W32 := a.setWidth 32 <<< 24 ||| b.setWidth 32 <<< 16 ||| c.setWidth 32 <<< 8 ||| d.setWidth 32
/-- The word at a place of bytes. -/
def wordAt (l : List B8) (i : Nat) : W32 := be (l.getD (4 * i) 0) (l.getD (4 * i + 1) 0) (l.getD (4 * i + 2) 0) (l.getD (4 * i + 3) 0)
def words (l : List B8) (n : Nat) : List W32 := (List.range n).map (wordAt l)
def nextW (l : List W32) : W32 := small1 (l.getD (l.length - 2) 0) + l.getD (l.length - 7) 0 + small0 (l.getD (l.length - 15) 0) + l.getD (l.length - 16) 0
def extend : Nat → List W32 → List W32
  | 0, l => l
  | n + 1, l => extend n (l ++ [nextW l])
structure S8 where
  (a b c d e f g h : W32)
def S8.begin : S8 := ⟨0x6a09e667, 0xbb67ae85, 0x3c6ef372, 0xa54ff53a, 0x510e527f, 0x9b05688c, 0x1f83d9ab, 0x5be0cd19⟩
def S8.round (s : S8) (k w : W32) : S8 :=
  ⟨(s.h + great1 s.e + (s.g ^^^ s.e &&& (s.f ^^^ s.g)) + k + w) + (great0 s.a + (s.a &&& s.b ||| s.c &&& (s.a ||| s.b))), s.a, s.b, s.c, s.d + (s.h + great1 s.e + (s.g ^^^ s.e &&& (s.f ^^^ s.g)) + k + w), s.e, s.f, s.g⟩
def S8.rounds : List W32 → List W32 → S8 → S8
  | k :: ks, w :: ws, s => S8.rounds ks ws (s.round k w)
  | _, _, s => s
def S8.plus (s t : S8) : S8 := ⟨s.a + t.a, s.b + t.b, s.c + t.c, s.d + t.d, s.e + t.e, s.f + t.f, s.g + t.g, s.h + t.h⟩
def sched (blk : List B8) : List W32 := extend 48 (words blk 16)
def S8.mix (s : S8) (blk : List B8) : S8 := s.plus (S8.rounds table (sched blk) s)
/-- So many blocks. -/
def S8.comp : Nat → S8 → List B8 → S8
  | 0, s, _ => s
  | n + 1, s, l => S8.comp n (s.mix (l.take 64)) (l.drop 64)
def S8.list (s : S8) : List W32 := [s.a, s.b, s.c, s.d, s.e, s.f, s.g, s.h]
def put32 (x : W32) : List B8 := [(x >>> 24).setWidth 8, (x >>> 16).setWidth 8, (x >>> 8).setWidth 8, x.setWidth 8]
def put64 (x : BitVec 64) : List B8 := [(x >>> 56).setWidth 8, (x >>> 48).setWidth 8, (x >>> 40).setWidth 8, (x >>> 32).setWidth 8, (x >>> 24).setWidth 8, (x >>> 16).setWidth 8, (x >>> 8).setWidth 8, x.setWidth 8]
def fill (l : List B8) (n : Nat) : List B8 := l ++ [0x80] ++ List.replicate ((119 - l.length % 64) % 64) 0 ++ put64 (BitVec.ofNat 64 (8 * n))
/-- The digest of what is left behind whole blocks that led to a state, all in all so many bytes. -/
def finish (s : S8) (left : List B8) (n : Nat) : List B8 := ((S8.comp ((fill left n).length / 64) s (fill left n)).list.map put32).flatten
/-- All whole blocks. -/
def S8.run (s : S8) (l : List B8) : S8 := S8.comp (l.length / 64) s l
def rest (l : List B8) : List B8 := l.drop (64 * (l.length / 64))
def sha (l : List B8) : List B8 := finish (S8.begin.run l) (rest l) l.length
def keyOf (key : List B8) : List B8 := if 64 < key.length then sha key else key
def padOf (key : List B8) (c : B8) : List B8 := (keyOf key ++ List.replicate (64 - (keyOf key).length) 0).map (· ^^^ c)
def hmac (key b : List B8) : List B8 := sha (padOf key 0x5C ++ sha (padOf key 0x36 ++ b))
def jefe : List B8 := [0x4a, 0x65, 0x66, 0x65]
def want : List B8 := [0x77,0x68,0x61,0x74,0x20,0x64,0x6f,0x20,0x79,0x61,0x20,0x77,0x61,0x6e,0x74,0x20,0x66,0x6f,0x72,0x20,0x6e,0x6f,0x74,0x68,0x69,0x6e,0x67,0x3f]
theorem jefe_tag : (hmac jefe want).getD 0 0 = 0x5B ∧ (hmac jefe want).getD 31 0 = 0x43 := by decide +kernel

theorem comp_app : ∀ (m n : Nat) (s : S8) (l r : List B8), l.length = 64 * m → S8.comp (m + n) s (l ++ r) = S8.comp n (S8.comp m s l) r
  | 0, n, s, l, r, h => by
    obtain rfl : l = [] := List.eq_nil_of_length_eq_zero (by omega)
    simp [S8.comp]
  | m + 1, n, s, l, r, h => by
    rw [show m + 1 + n = (m + n) + 1 by omega]
    simp only [S8.comp]
    rw [List.take_append_of_le_length (by omega), List.drop_append_of_le_length (by omega)]
    exact comp_app m n _ _ r (by simp; omega)
theorem comp_take : ∀ (n : Nat) (s : S8) (l : List B8), 64 * n ≤ l.length → S8.comp n s (l.take (64 * n)) = S8.comp n s l := by
  intro n s l h
  have := comp_app n 0 s (l.take (64 * n)) (l.drop (64 * n)) (by simp; omega)
  rw [List.take_append_drop] at this
  simpa [S8.comp] using this.symm
theorem rest_len (l : List B8) : (rest l).length = l.length % 64 := by
  simp only [rest, List.length_drop]; omega
/-- On and on: what was run, and what was left with what comes. -/
theorem run_app (s : S8) (l r : List B8) : s.run (l ++ r) = (s.run l).run (rest l ++ r) ∧ rest (l ++ r) = rest (rest l ++ r) := by
  have hl : l = l.take (64 * (l.length / 64)) ++ rest l := by simp [rest]
  have h64 : (l.take (64 * (l.length / 64))).length = 64 * (l.length / 64) := by simp; omega
  have hr := rest_len l
  constructor
  · unfold S8.run
    have e : (l ++ r).length / 64 = l.length / 64 + (rest l ++ r).length / 64 := by
      simp only [List.length_append, hr]; omega
    rw [e]
    generalize (rest l ++ r).length / 64 = n
    have e2 : S8.comp (l.length / 64) s l = S8.comp (l.length / 64) s (l.take (64 * (l.length / 64))) := (comp_take _ _ _ (by omega)).symm
    rw [e2, ← comp_app _ _ _ _ _ h64, ← List.append_assoc, ← hl]
  · have : (l ++ r).drop (64 * ((l ++ r).length / 64)) = (rest l ++ r).drop (64 * ((rest l ++ r).length / 64)) := by
      conv => lhs; arg 2; rw [hl, List.append_assoc]
      rw [List.drop_append, List.drop_eq_nil_of_le (by rw [h64]; simp only [List.length_append]; omega), List.nil_append, h64]
      congr 1
      simp only [List.length_append, hr]; omega
    exact this
theorem fill_len (l : List B8) (n : Nat) : (fill l n).length % 64 = 0 ∧ l.length + 9 ≤ (fill l n).length ∧ (fill l n).length ≤ l.length + 72 := by
  simp only [fill, put64, List.length_append, List.length_cons, List.length_nil, List.length_replicate]; omega
/-- All at once: the digest out of the filled bytes. -/
theorem sha_fill (l : List B8) : sha l = ((S8.comp ((fill l l.length).length / 64) S8.begin (fill l l.length)).list.map put32).flatten := by
  have hl : l = l.take (64 * (l.length / 64)) ++ rest l := by simp [rest]
  have h64 : (l.take (64 * (l.length / 64))).length = 64 * (l.length / 64) := by simp; omega
  have hr := rest_len l
  unfold sha finish
  have e : fill l l.length = l.take (64 * (l.length / 64)) ++ fill (rest l) l.length := by
    unfold fill
    rw [hr, Nat.mod_mod, ← List.append_assoc, ← List.append_assoc, ← List.append_assoc, ← hl]
  have e2 : (fill l l.length).length / 64 = l.length / 64 + (fill (rest l) l.length).length / 64 := by
    rw [e, List.length_append, h64]; omega
  rw [e2, e, comp_app _ _ _ _ _ h64, comp_take _ _ _ (by omega)]
  rfl
theorem list32 (s : S8) : (s.list.map put32).flatten.length = 32 := rfl
theorem sha_len (l : List B8) : (sha l).length = 32 := rfl
theorem keyOf_len (k : List B8) : (keyOf k).length ≤ 64 := by
  unfold keyOf; split
  · rw [sha_len]; omega
  · omega
theorem padOf_len (k : List B8) (c : B8) : (padOf k c).length = 64 := by
  have := keyOf_len k
  simp only [padOf, List.length_map, List.length_append, List.length_replicate]; omega
theorem hmac_len (k b : List B8) : (hmac k b).length = 32 := rfl
theorem extend_len : ∀ (n : Nat) (l : List W32), (extend n l).length = l.length + n
  | 0, _ => rfl
  | n + 1, l => by rw [extend, extend_len n]; simp; omega
theorem sched_len (b : List B8) : (sched b).length = 64 := by rw [sched, extend_len]; simp [words]
/-! The document's words for the same. -/
theorem ch_eq (e f g : W32) : g ^^^ e &&& (f ^^^ g) = (e &&& f ^^^ ~~~e &&& g) := by
  ext i hi
  simp only [BitVec.getElem_xor, BitVec.getElem_and, BitVec.getElem_not]
  cases e[i] <;> cases f[i] <;> cases g[i] <;> rfl
theorem maj_eq (a b c : W32) : (a &&& b ||| c &&& (a ||| b)) = (a &&& b ^^^ a &&& c ^^^ b &&& c) := by
  ext i hi
  simp only [BitVec.getElem_xor, BitVec.getElem_and, BitVec.getElem_or]
  cases a[i] <;> cases b[i] <;> cases c[i] <;> rfl
attribute [irreducible] extend sched S8.rounds S8.mix S8.comp S8.run rest fill finish sha keyOf padOf hmac
end Go.Proofs.Ytbccpibgjjiikaa
