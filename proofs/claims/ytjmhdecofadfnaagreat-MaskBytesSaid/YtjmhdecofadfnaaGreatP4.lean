/- the plain law, part 4 -/
import Derived.Test.YtjmhdecofadfnaaGreatP3
set_option autoImplicit false
set_option linter.unusedSimpArgs false
set_option linter.unusedVariables false
set_option linter.unnecessarySimpa false
section
namespace Go.Av
/-- zigzag -/
def zz2 (a : Int) : Nat := if a < 0 then (-2 * a - 1).toNat else (2 * a).toNat
theorem xor_ones {x : Nat} (h : x < 18446744073709551616) : bitsA .xor .u64 (x : Int) 18446744073709551615 = ((18446744073709551615 - x : Nat) : Int) := by
 show IntKind.u64.wrap ((BitVec.ofInt 64 (x : Int) ^^^ BitVec.ofInt 64 18446744073709551615).toNat : Int) = _
 have e : BitVec.ofInt 64 18446744073709551615 = BitVec.allOnes 64 := by decide
 have e1 : x % 2 ^ 64 = x := Nat.mod_eq_of_lt (by omega)
 rw [e, BitVec.xor_allOnes, BitVec.toNat_not, BitVec.ofInt_natCast, BitVec.toNat_ofNat, e1]
 rw [wrap_u64] <;> omega
theorem xor_zero {x : Nat} (h : x < 18446744073709551616) : bitsA .xor .u64 (x : Int) 0 = (x : Int) := by
 show IntKind.u64.wrap ((BitVec.ofInt 64 (x : Int) ^^^ BitVec.ofInt 64 0).toNat : Int) = _
 have e : BitVec.ofInt 64 0 = 0#64 := by decide
 have e1 : x % 2 ^ 64 = x := Nat.mod_eq_of_lt (by omega)
 rw [e, BitVec.xor_zero, BitVec.ofInt_natCast, BitVec.toNat_ofNat, e1]
 rw [wrap_u64] <;> omega
theorem xor_izero {x : Nat} (h : x < 9223372036854775808) : bitsA .xor .i64 (x : Int) 0 = (x : Int) := by
 show IntKind.i64.wrap ((BitVec.ofInt 64 (x : Int) ^^^ BitVec.ofInt 64 0).toNat : Int) = _
 have e : BitVec.ofInt 64 0 = 0#64 := by decide
 have e1 : x % 2 ^ 64 = x := Nat.mod_eq_of_lt (by omega)
 rw [e, BitVec.xor_zero, BitVec.ofInt_natCast, BitVec.toNat_ofNat, e1]
 rw [wrap_i64] <;> omega
theorem xor_im1 {x : Nat} (h : x < 9223372036854775808) : bitsA .xor .i64 (x : Int) (-1) = -1 - (x : Int) := by
 show IntKind.i64.wrap ((BitVec.ofInt 64 (x : Int) ^^^ BitVec.ofInt 64 (-1)).toNat : Int) = _
 have e : BitVec.ofInt 64 (-1) = BitVec.allOnes 64 := by decide
 have e1 : x % 2 ^ 64 = x := Nat.mod_eq_of_lt (by omega)
 rw [e, BitVec.xor_allOnes, BitVec.toNat_not, BitVec.ofInt_natCast, BitVec.toNat_ofNat, e1]
 have e2 : ((2 ^ 64 - 1 - x : Nat) : Int) = 18446744073709551615 - (x : Int) := by omega
 rw [e2]
 unfold IntKind.wrap
 simp only [IntKind.bits, IntKind.signed, Bool.true_and, Nat.reduceSub, Int.reducePow, ge_iff_le]
 split
 ·rename_i h; try simp only [decide_eq_true_eq] at h
  omega
 ·rename_i h; try simp only [decide_eq_true_eq] at h
  omega
theorem and_one {x : Nat} (h : x < 18446744073709551616) : bitsA .and .u64 (x : Int) 1 = ((x % 2 : Nat) : Int) := by
 show IntKind.u64.wrap ((BitVec.ofInt 64 (x : Int) &&& BitVec.ofInt 64 1).toNat : Int) = _
 have e : BitVec.ofInt 64 1 = 1#64 := by decide
 have e1 : x % 2 ^ 64 = x := Nat.mod_eq_of_lt (by omega)
 rw [e, BitVec.toNat_and, BitVec.ofInt_natCast, BitVec.toNat_ofNat, e1, show (1#64).toNat = 1 from rfl, Nat.and_one_is_mod]
 rw [wrap_u64] <;> omega
theorem wrapu (x : Int) : IntKind.u64.wrap x = x % 18446744073709551616 := rfl
theorem zz2_lt {a : Int} (h : isI64 a) : zz2 a < 18446744073709551616 := by
 obtain ⟨h1, h2⟩ := h
 unfold zz2; split <;> omega
theorem g135_zz (n : Nat) {a : Int} (h : isI64 a) : g135 n a = some ((zz2 a : Nat) : Int) := by
 obtain ⟨h1, h2⟩ := h
 unfold g135 zz2
 rw [Int.fdiv_eq_ediv_of_nonneg _ (by decide)]
 split
 ·have e1 : a / 9223372036854775808 = -1 := by omega
  have e2 : IntKind.u64.wrap (-1) = 18446744073709551615 := by decide
  have e3 : IntKind.u64.wrap (IntKind.u64.wrap a * 2) = (((18446744073709551616 + 2 * a).toNat : Nat) : Int) := by rw [wrapu, wrapu]; omega
  rw [e1, e2, e3, xor_ones (by omega)]
  congr 1; omega
 ·have e1 : a / 9223372036854775808 = 0 := by omega
  have e2 : IntKind.u64.wrap 0 = 0 := by decide
  have e3 : IntKind.u64.wrap (IntKind.u64.wrap a * 2) = (((2 * a).toNat : Nat) : Int) := by rw [wrapu, wrapu]; omega
  rw [e1, e2, e3, xor_zero (by omega)]
theorem g137_zz (n : Nat) {a : Int} (h : isI64 a) : g137 n a = some ((zz2 a : Nat) : Int) := by
 obtain ⟨h1, h2⟩ := h
 unfold g137 zz2
 split
 ·rw [wrap_i64 (x := a + 1) (by omega) (by omega), wrap_i64 (x := 0 - (a + 1)) (by omega) (by omega), wrap_u64 (x := 0 - (a + 1)) (by omega) (by omega), wrap_u64 (x := 2 * (0 - (a + 1))) (by omega) (by omega), wrap_u64 (by omega) (by omega)]
  congr 1; omega
 ·rw [wrap_u64 (x := a) (by omega) (by omega), wrap_u64 (by omega) (by omega)]
  congr 1; omega
theorem g92_zz (n : Nat) {a : Int} (h : isI64 a) : g92 n ((zz2 a : Nat) : Int) = some a := by
 have hl := zz2_lt h
 obtain ⟨h1, h2⟩ := h
 unfold g92
 rw [and_one hl, Int.fdiv_eq_ediv_of_nonneg _ (by decide)]
 have e0 : ((zz2 a : Nat) : Int) / 2 = ((zz2 a / 2 : Nat) : Int) := by omega
 rw [e0, wrap_i64 (x := ((zz2 a / 2 : Nat) : Int)) (by omega) (by omega), wrap_i64 (x := ((zz2 a % 2 : Nat) : Int)) (by omega) (by omega), wrap_i64 (by omega) (by omega)]
 by_cases ha : a < 0
 ·have e1 : zz2 a = (-2 * a - 1).toNat := by unfold zz2; rw [if_pos ha]
  have e2 : zz2 a % 2 = 1 := by omega
  have e3 : (0 : Int) - ((1 : Nat) : Int) = -1 := by omega
  rw [e2, e3, xor_im1 (by omega)]
  congr 1; omega
 ·have e1 : zz2 a = (2 * a).toNat := by unfold zz2; rw [if_neg ha]
  have e2 : zz2 a % 2 = 0 := by omega
  have e3 : (0 : Int) - ((0 : Nat) : Int) = 0 := by omega
  rw [e2, e3, xor_izero (by omega)]
  congr 1; omega
theorem g87_vu (n : Nat) {a : Int} (l : List Int) (h : isI64 a) (hn : 11 ≤ n) (hl : l.length + n < 140737488355328) : g87 n ⟨l⟩ a = some ⟨l ++ vu (zz2 a)⟩ := by
 unfold g87
 rw [g135_zz n h, Option.bind_some, g134_vu n _ l (zz2_lt h) hn hl, Option.bind_some]
theorem g40_vu (n : Nat) {a : Int} (rest : List Int) (h : isI64 a) (hn : 10 ≤ n) : g40 n ⟨vu (zz2 a) ++ rest, 0⟩ = some (a, ⟨rest, 0⟩) := by
 unfold g40
 rw [g93_vu n _ rest (zz2_lt h) hn, Option.bind_some]
 simp only [g92_zz n h, Option.bind_some]
end Go.Av
end
