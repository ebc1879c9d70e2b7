/-
  Pebbles: what holds of the stones between two calls; no program.
-/
import Derived.Test.YtamibdabhgnfcaaPc
set_option linter.unusedVariables false
set_option linter.unusedSimpArgs false
namespace Go.Proofs.Ytamibdabhgnfcaa
open Go
/-- The way goes down, and stays above. -/
theorem Way.down {i t : Int} {l : List Int} {c : Int} (h : Way i t l c) (hit : i ≤ t) : i ≤ c ∧ c ≤ t ∧ (t :: l).Pairwise (· > ·) ∧ (∀ x ∈ t :: l, c ≤ x) ∧ ∃ m, t :: l = m ++ [c] := by
  induction h with
  | nil => exact ⟨hit, Int.le_refl _, by simp, by simp, [], rfl⟩
  | snoc h hlt ih =>
    rename_i l c
    obtain ⟨h1, h2, h3, h4, m, h5⟩ := ih
    have hq : i ≤ i + (c - i) / 2 ∧ i + (c - i) / 2 < c := by omega
    refine ⟨hq.1, by omega, ?_, ?_, t :: l, by simp⟩
    · rw [← List.cons_append, List.pairwise_append]
      refine ⟨h3, by simp, ?_⟩
      intro a ha b hb
      obtain rfl := List.mem_singleton.1 hb
      have := h4 a ha
      show a > i + (c - i) / 2
      omega
    · intro x hx
      rw [← List.cons_append] at hx
      rcases List.mem_append.1 hx with hx | hx
      · have := h4 x hx; omega
      · obtain rfl := List.mem_singleton.1 hx; exact Int.le_refl _
/-- Between two calls: the stones go down from the last index, above what was told; each has its key. -/
structure PInv (key : List B8) (n told : Int) (l : List Stn) : Prop where
  desc : (l.map (·.i)).Pairwise (· > ·)
  low : ∀ s ∈ l, told < s.i ∧ s.i ≤ n ∧ s.k.l = stepN key (n - s.i).toNat
  fst : told < n → ∃ s r, l = s :: r ∧ s.i = n
theorem desc_len {lo : Int} : ∀ (l : List Int) (hi : Int), l.Pairwise (· > ·) → (∀ x ∈ l, lo < x ∧ x ≤ hi) → (l.length : Int) ≤ max (hi - lo) 0
  | [], hi, _, _ => by simp; omega
  | x :: l, hi, h, hb => by
    rw [List.pairwise_cons] at h
    have hx := hb x (List.Mem.head _)
    have := desc_len l (x - 1) h.2 (fun y hy => ⟨(hb y (List.Mem.tail _ hy)).1, by have := h.1 y hy; omega⟩)
    rw [List.length_cons]
    omega
theorem PInv.len {key : List B8} {n told : Int} {l : List Stn} (h : PInv key n told l) (h1 : told ≤ n) : (l.length : Int) ≤ n - told := by
  have := desc_len (lo := told) (l.map (·.i)) n h.desc (fun x hx => by
    obtain ⟨s, hs, rfl⟩ := List.mem_map.1 hx
    exact ⟨(h.low s hs).1, (h.low s hs).2.1⟩)
  rw [List.length_map] at this
  omega
theorem PInv.next {key : List B8} {n told : Int} {l0 l1 l2 : List Stn} {t c : Stn} (h : PInv key n told (l0 ++ [t])) (hll : l0 ++ [t] ++ l1 = l2 ++ [c]) (hw : Way (told + 1) t.i (l1.map (·.i)) c.i) (hc : c.i = told + 1) (hl1 : ∀ s ∈ l1, s.k.l = stepN key (n - s.i).toNat) : PInv key n (told + 1) l2 := by
  have ht := h.low t (by simp)
  obtain ⟨h1, h2, h3, h4, _⟩ := hw.down (by omega)
  have hd : ((l2 ++ [c]).map (·.i)).Pairwise (· > ·) := by
    rw [← hll, List.append_assoc, List.map_append]
    have e : ([t] ++ l1).map (·.i) = t.i :: l1.map (·.i) := rfl
    rw [e, List.pairwise_append]
    have hd0 := h.desc
    rw [List.map_append, List.pairwise_append] at hd0
    refine ⟨hd0.1, h3, ?_⟩
    intro a ha b hb
    have hat := hd0.2.2 a ha t.i (by simp)
    rcases List.mem_cons.1 hb with rfl | hb
    · exact hat
    · rw [List.pairwise_cons] at h3
      have := h3.1 b hb
      show a > b
      omega
  rw [List.map_append, List.pairwise_append] at hd
  have hmem : ∀ s ∈ l2, s ∈ l0 ++ [t] ++ l1 := fun s hs => by rw [hll]; exact List.mem_append_left _ hs
  refine ⟨hd.1, fun s hs => ?_, fun hlt => ?_⟩
  · have h5 := hd.2.2 s.i (List.mem_map_of_mem hs) c.i (by simp)
    refine ⟨by omega, ?_⟩
    rcases List.mem_append.1 (hmem s hs) with hm | hm
    · exact (h.low s hm).2
    · rw [List.pairwise_cons] at h3
      have := h3.1 s.i (List.mem_map_of_mem hm)
      exact ⟨by omega, hl1 s hm⟩
  · obtain ⟨s, r, hs, hsn⟩ := h.fst (by omega)
    cases l2 with
    | nil =>
      rw [hs] at hll
      simp only [List.cons_append, List.nil_append] at hll
      have := (List.cons.inj hll).1
      rw [← this] at hc
      omega
    | cons s2 r2 =>
      rw [hs] at hll
      simp only [List.cons_append] at hll
      exact ⟨s2, r2, rfl, by rw [← (List.cons.inj hll).1]; exact hsn⟩
theorem PInv.begin {key : List B8} {n : Int} {t : Stn} {l1 l2 : List Stn} {c : Stn} (hn : 1 ≤ n) (hll : [] ++ [t] ++ l1 = l2 ++ [c]) (hti : t.i = n) (htk : t.k.l = stepN key (n - n).toNat) (hw : Way 1 n (l1.map (·.i)) c.i) (hl1 : ∀ s ∈ l1, s.k.l = stepN key (n - s.i).toNat) : PInv key n 0 (l2 ++ [c]) := by
  rw [← hll]
  obtain ⟨h1, h2, h3, h4, _⟩ := hw.down hn
  refine ⟨?_, fun s hs => ?_, fun _ => ⟨t, l1, rfl, hti⟩⟩
  · have e : ([] ++ [t] ++ l1).map (fun x : Stn => x.i) = t.i :: l1.map (·.i) := rfl
    rw [e, hti]; exact h3
  · have hs : s = t ∨ s ∈ l1 := by simpa using hs
    rcases hs with rfl | hs
    · exact ⟨by omega, by omega, by rw [hti]; exact htk⟩
    · have h5 := h4 s.i (List.Mem.tail _ (List.mem_map_of_mem hs))
      rw [List.pairwise_cons] at h3
      have := h3.1 s.i (List.mem_map_of_mem hs)
      exact ⟨by omega, by omega, hl1 s hs⟩
theorem PInv.last {key : List B8} {n told : Int} {l : List Stn} (h : PInv key n told l) (hlt : told < n) : ∃ l0 t, l = l0 ++ [t] := by
  obtain ⟨s, r, rfl, _⟩ := h.fst hlt
  exact ⟨(s :: r).dropLast, (s :: r).getLast (by simp), (List.dropLast_concat_getLast (by simp)).symm⟩
end Go.Proofs.Ytamibdabhgnfcaa
