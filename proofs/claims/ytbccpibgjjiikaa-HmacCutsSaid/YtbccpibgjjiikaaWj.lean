/-
  Unsigned numbers as words of bits.
-/
import Derived.Test.YtbccpibgjjiikaaWi
set_option linter.unusedVariables false
set_option linter.unusedSimpArgs false
namespace Go.Proofs.Ytbccpibgjjiikaa

theorem ofw_u8 (a : BitVec 8) : BitVec.ofInt IntKind.u8.bits (a.toNat : Int) = a := by
  show BitVec.ofInt 8 (a.toNat : Int) = a
  rw [BitVec.ofInt_natCast, BitVec.ofNat_toNat, BitVec.setWidth_eq]
theorem wrapw_u8 (a : BitVec 8) : IntKind.u8.wrap (a.toNat : Int) = a.toNat := (fit_u8 (by omega) (by have := a.isLt; omega)).symm
theorem and_u8 (a b : BitVec 8) : ((a &&& b).toNat : Int) = bitsOf .and .u8 a.toNat b.toNat := by simp only [bitsOf, ofw_u8]; exact (wrapw_u8 _).symm
theorem or_u8 (a b : BitVec 8) : ((a ||| b).toNat : Int) = bitsOf .or .u8 a.toNat b.toNat := by simp only [bitsOf, ofw_u8]; exact (wrapw_u8 _).symm
theorem xor_u8 (a b : BitVec 8) : ((a ^^^ b).toNat : Int) = bitsOf .xor .u8 a.toNat b.toNat := by simp only [bitsOf, ofw_u8]; exact (wrapw_u8 _).symm
theorem add_u8 (a b : BitVec 8) : ((a + b).toNat : Int) = IntKind.u8.wrap (a.toNat + b.toNat) := by
  simp only [BitVec.toNat_add, IntKind.wrap, IntKind.signed, IntKind.bits]
  simp
theorem sub_u8 (a b : BitVec 8) : ((a - b).toNat : Int) = IntKind.u8.wrap (a.toNat - b.toNat) := by
  have ha := a.isLt
  have hb := b.isLt
  simp only [BitVec.toNat_sub, IntKind.wrap, IntKind.signed, IntKind.bits]
  simp
  omega
theorem shr_u8 (a : BitVec 8) (c : Int) (h0 : 0 ≤ c) (h1 : c ≤ 8) : ((a >>> c.toNat).toNat : Int) = shrOf .u8 a.toNat c := by
  obtain ⟨m, rfl⟩ := Int.eq_ofNat_of_zero_le h0
  have hm : m ≤ 8 := by omega
  unfold shrOf
  rw [Int.toNat_natCast, show min m IntKind.u8.bits = m from Nat.min_eq_left hm]
  rw [BitVec.toNat_ushiftRight, Nat.shiftRight_eq_div_pow, Int.fdiv_eq_ediv_of_nonneg _ (Int.le_of_lt (Int.pow_pos (by decide)))]
  simp
theorem shl_u8 (a : BitVec 8) (c : Int) (h0 : 0 ≤ c) (h1 : c ≤ 8) : ((a <<< c.toNat).toNat : Int) = shlOf .u8 a.toNat c := by
  obtain ⟨m, rfl⟩ := Int.eq_ofNat_of_zero_le h0
  have hm : m ≤ 8 := by omega
  unfold shlOf
  rw [Int.toNat_natCast, show min m IntKind.u8.bits = m from Nat.min_eq_left hm]
  rw [BitVec.toNat_shiftLeft, Nat.shiftLeft_eq]
  simp only [IntKind.wrap, IntKind.signed, IntKind.bits]
  simp
theorem not_u8 (a : BitVec 8) : ((~~~a).toNat : Int) = bitsOf .xor .u8 (match IntKind.u8.signed with | true => -1 | false => IntKind.u8.max) a.toNat := by
  show ((~~~a).toNat : Int) = IntKind.u8.wrap ((BitVec.ofInt 8 255 ^^^ BitVec.ofInt 8 (a.toNat : Int)).toNat)
  rw [show BitVec.ofInt 8 255 = BitVec.allOnes 8 from by decide, show BitVec.ofInt 8 (a.toNat : Int) = a from ofw_u8 a, BitVec.allOnes_xor, wrapw_u8]

theorem ofw_u16 (a : BitVec 16) : BitVec.ofInt IntKind.u16.bits (a.toNat : Int) = a := by
  show BitVec.ofInt 16 (a.toNat : Int) = a
  rw [BitVec.ofInt_natCast, BitVec.ofNat_toNat, BitVec.setWidth_eq]
theorem wrapw_u16 (a : BitVec 16) : IntKind.u16.wrap (a.toNat : Int) = a.toNat := (fit_u16 (by omega) (by have := a.isLt; omega)).symm
theorem and_u16 (a b : BitVec 16) : ((a &&& b).toNat : Int) = bitsOf .and .u16 a.toNat b.toNat := by simp only [bitsOf, ofw_u16]; exact (wrapw_u16 _).symm
theorem or_u16 (a b : BitVec 16) : ((a ||| b).toNat : Int) = bitsOf .or .u16 a.toNat b.toNat := by simp only [bitsOf, ofw_u16]; exact (wrapw_u16 _).symm
theorem xor_u16 (a b : BitVec 16) : ((a ^^^ b).toNat : Int) = bitsOf .xor .u16 a.toNat b.toNat := by simp only [bitsOf, ofw_u16]; exact (wrapw_u16 _).symm
theorem add_u16 (a b : BitVec 16) : ((a + b).toNat : Int) = IntKind.u16.wrap (a.toNat + b.toNat) := by
  simp only [BitVec.toNat_add, IntKind.wrap, IntKind.signed, IntKind.bits]
  simp
theorem sub_u16 (a b : BitVec 16) : ((a - b).toNat : Int) = IntKind.u16.wrap (a.toNat - b.toNat) := by
  have ha := a.isLt
  have hb := b.isLt
  simp only [BitVec.toNat_sub, IntKind.wrap, IntKind.signed, IntKind.bits]
  simp
  omega
theorem shr_u16 (a : BitVec 16) (c : Int) (h0 : 0 ≤ c) (h1 : c ≤ 16) : ((a >>> c.toNat).toNat : Int) = shrOf .u16 a.toNat c := by
  obtain ⟨m, rfl⟩ := Int.eq_ofNat_of_zero_le h0
  have hm : m ≤ 16 := by omega
  unfold shrOf
  rw [Int.toNat_natCast, show min m IntKind.u16.bits = m from Nat.min_eq_left hm]
  rw [BitVec.toNat_ushiftRight, Nat.shiftRight_eq_div_pow, Int.fdiv_eq_ediv_of_nonneg _ (Int.le_of_lt (Int.pow_pos (by decide)))]
  simp
theorem shl_u16 (a : BitVec 16) (c : Int) (h0 : 0 ≤ c) (h1 : c ≤ 16) : ((a <<< c.toNat).toNat : Int) = shlOf .u16 a.toNat c := by
  obtain ⟨m, rfl⟩ := Int.eq_ofNat_of_zero_le h0
  have hm : m ≤ 16 := by omega
  unfold shlOf
  rw [Int.toNat_natCast, show min m IntKind.u16.bits = m from Nat.min_eq_left hm]
  rw [BitVec.toNat_shiftLeft, Nat.shiftLeft_eq]
  simp only [IntKind.wrap, IntKind.signed, IntKind.bits]
  simp
theorem not_u16 (a : BitVec 16) : ((~~~a).toNat : Int) = bitsOf .xor .u16 (match IntKind.u16.signed with | true => -1 | false => IntKind.u16.max) a.toNat := by
  show ((~~~a).toNat : Int) = IntKind.u16.wrap ((BitVec.ofInt 16 65535 ^^^ BitVec.ofInt 16 (a.toNat : Int)).toNat)
  rw [show BitVec.ofInt 16 65535 = BitVec.allOnes 16 from by decide, show BitVec.ofInt 16 (a.toNat : Int) = a from ofw_u16 a, BitVec.allOnes_xor, wrapw_u16]

theorem ofw_u32 (a : BitVec 32) : BitVec.ofInt IntKind.u32.bits (a.toNat : Int) = a := by
  show BitVec.ofInt 32 (a.toNat : Int) = a
  rw [BitVec.ofInt_natCast, BitVec.ofNat_toNat, BitVec.setWidth_eq]
theorem wrapw_u32 (a : BitVec 32) : IntKind.u32.wrap (a.toNat : Int) = a.toNat := (fit_u32 (by omega) (by have := a.isLt; omega)).symm
theorem and_u32 (a b : BitVec 32) : ((a &&& b).toNat : Int) = bitsOf .and .u32 a.toNat b.toNat := by simp only [bitsOf, ofw_u32]; exact (wrapw_u32 _).symm
theorem or_u32 (a b : BitVec 32) : ((a ||| b).toNat : Int) = bitsOf .or .u32 a.toNat b.toNat := by simp only [bitsOf, ofw_u32]; exact (wrapw_u32 _).symm
theorem xor_u32 (a b : BitVec 32) : ((a ^^^ b).toNat : Int) = bitsOf .xor .u32 a.toNat b.toNat := by simp only [bitsOf, ofw_u32]; exact (wrapw_u32 _).symm
theorem add_u32 (a b : BitVec 32) : ((a + b).toNat : Int) = IntKind.u32.wrap (a.toNat + b.toNat) := by
  simp only [BitVec.toNat_add, IntKind.wrap, IntKind.signed, IntKind.bits]
  simp
theorem sub_u32 (a b : BitVec 32) : ((a - b).toNat : Int) = IntKind.u32.wrap (a.toNat - b.toNat) := by
  have ha := a.isLt
  have hb := b.isLt
  simp only [BitVec.toNat_sub, IntKind.wrap, IntKind.signed, IntKind.bits]
  simp
  omega
theorem shr_u32 (a : BitVec 32) (c : Int) (h0 : 0 ≤ c) (h1 : c ≤ 32) : ((a >>> c.toNat).toNat : Int) = shrOf .u32 a.toNat c := by
  obtain ⟨m, rfl⟩ := Int.eq_ofNat_of_zero_le h0
  have hm : m ≤ 32 := by omega
  unfold shrOf
  rw [Int.toNat_natCast, show min m IntKind.u32.bits = m from Nat.min_eq_left hm]
  rw [BitVec.toNat_ushiftRight, Nat.shiftRight_eq_div_pow, Int.fdiv_eq_ediv_of_nonneg _ (Int.le_of_lt (Int.pow_pos (by decide)))]
  simp
theorem shl_u32 (a : BitVec 32) (c : Int) (h0 : 0 ≤ c) (h1 : c ≤ 32) : ((a <<< c.toNat).toNat : Int) = shlOf .u32 a.toNat c := by
  obtain ⟨m, rfl⟩ := Int.eq_ofNat_of_zero_le h0
  have hm : m ≤ 32 := by omega
  unfold shlOf
  rw [Int.toNat_natCast, show min m IntKind.u32.bits = m from Nat.min_eq_left hm]
  rw [BitVec.toNat_shiftLeft, Nat.shiftLeft_eq]
  simp only [IntKind.wrap, IntKind.signed, IntKind.bits]
  simp
theorem not_u32 (a : BitVec 32) : ((~~~a).toNat : Int) = bitsOf .xor .u32 (match IntKind.u32.signed with | true => -1 | false => IntKind.u32.max) a.toNat := by
  show ((~~~a).toNat : Int) = IntKind.u32.wrap ((BitVec.ofInt 32 4294967295 ^^^ BitVec.ofInt 32 (a.toNat : Int)).toNat)
  rw [show BitVec.ofInt 32 4294967295 = BitVec.allOnes 32 from by decide, show BitVec.ofInt 32 (a.toNat : Int) = a from ofw_u32 a, BitVec.allOnes_xor, wrapw_u32]

theorem ofw_u64 (a : BitVec 64) : BitVec.ofInt IntKind.u64.bits (a.toNat : Int) = a := by
  show BitVec.ofInt 64 (a.toNat : Int) = a
  rw [BitVec.ofInt_natCast, BitVec.ofNat_toNat, BitVec.setWidth_eq]
theorem wrapw_u64 (a : BitVec 64) : IntKind.u64.wrap (a.toNat : Int) = a.toNat := (fit_u64 (by omega) (by have := a.isLt; omega)).symm
theorem and_u64 (a b : BitVec 64) : ((a &&& b).toNat : Int) = bitsOf .and .u64 a.toNat b.toNat := by simp only [bitsOf, ofw_u64]; exact (wrapw_u64 _).symm
theorem or_u64 (a b : BitVec 64) : ((a ||| b).toNat : Int) = bitsOf .or .u64 a.toNat b.toNat := by simp only [bitsOf, ofw_u64]; exact (wrapw_u64 _).symm
theorem xor_u64 (a b : BitVec 64) : ((a ^^^ b).toNat : Int) = bitsOf .xor .u64 a.toNat b.toNat := by simp only [bitsOf, ofw_u64]; exact (wrapw_u64 _).symm
theorem add_u64 (a b : BitVec 64) : ((a + b).toNat : Int) = IntKind.u64.wrap (a.toNat + b.toNat) := by
  simp only [BitVec.toNat_add, IntKind.wrap, IntKind.signed, IntKind.bits]
  simp
theorem sub_u64 (a b : BitVec 64) : ((a - b).toNat : Int) = IntKind.u64.wrap (a.toNat - b.toNat) := by
  have ha := a.isLt
  have hb := b.isLt
  simp only [BitVec.toNat_sub, IntKind.wrap, IntKind.signed, IntKind.bits]
  simp
  omega
theorem shr_u64 (a : BitVec 64) (c : Int) (h0 : 0 ≤ c) (h1 : c ≤ 64) : ((a >>> c.toNat).toNat : Int) = shrOf .u64 a.toNat c := by
  obtain ⟨m, rfl⟩ := Int.eq_ofNat_of_zero_le h0
  have hm : m ≤ 64 := by omega
  unfold shrOf
  rw [Int.toNat_natCast, show min m IntKind.u64.bits = m from Nat.min_eq_left hm]
  rw [BitVec.toNat_ushiftRight, Nat.shiftRight_eq_div_pow, Int.fdiv_eq_ediv_of_nonneg _ (Int.le_of_lt (Int.pow_pos (by decide)))]
  simp
theorem shl_u64 (a : BitVec 64) (c : Int) (h0 : 0 ≤ c) (h1 : c ≤ 64) : ((a <<< c.toNat).toNat : Int) = shlOf .u64 a.toNat c := by
  obtain ⟨m, rfl⟩ := Int.eq_ofNat_of_zero_le h0
  have hm : m ≤ 64 := by omega
  unfold shlOf
  rw [Int.toNat_natCast, show min m IntKind.u64.bits = m from Nat.min_eq_left hm]
  rw [BitVec.toNat_shiftLeft, Nat.shiftLeft_eq]
  simp only [IntKind.wrap, IntKind.signed, IntKind.bits]
  simp
theorem not_u64 (a : BitVec 64) : ((~~~a).toNat : Int) = bitsOf .xor .u64 (match IntKind.u64.signed with | true => -1 | false => IntKind.u64.max) a.toNat := by
  show ((~~~a).toNat : Int) = IntKind.u64.wrap ((BitVec.ofInt 64 18446744073709551615 ^^^ BitVec.ofInt 64 (a.toNat : Int)).toNat)
  rw [show BitVec.ofInt 64 18446744073709551615 = BitVec.allOnes 64 from by decide, show BitVec.ofInt 64 (a.toNat : Int) = a from ofw_u64 a, BitVec.allOnes_xor, wrapw_u64]

end Go.Proofs.Ytbccpibgjjiikaa
