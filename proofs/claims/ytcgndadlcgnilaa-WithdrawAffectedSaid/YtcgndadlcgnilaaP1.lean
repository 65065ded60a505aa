/- the plain law, part 1 -/
import Derived.Test.YtcgndadlcgnilaaW1
import Derived.Test.YtcgndadlcgnilaaW2
import Derived.Test.YtcgndadlcgnilaaW3
import Derived.Test.YtcgndadlcgnilaaW4
import Derived.Test.YtcgndadlcgnilaaW5
set_option autoImplicit false
set_option linter.unusedSimpArgs false
set_option linter.unusedVariables false
set_option linter.unnecessarySimpa false
section
namespace Go.Av
def isI64 (n : Int) : Prop := -9223372036854775808 ≤ n ∧ n < 9223372036854775808
def isU64 (n : Int) : Prop := 0 ≤ n ∧ n < 18446744073709551616
theorem ar (n : Nat) (a m : Int) (ha : isI64 a) (hm : 0 < m) : ∃ r, g17 n a m = some r ∧ 0 ≤ r ∧ r < m := by
 obtain ⟨h1, h2⟩ := ha
 unfold g17
 by_cases h : a < 0
 ·rw [if_pos h, if_pos (show ¬ m = 0 by omega), wrap_i64 (show -9223372036854775808 ≤ a + 1 by omega) (by omega), wrap_i64 (by omega) (by omega)]
  exact ⟨_, rfl, Int.tmod_nonneg _ (by omega), Int.tmod_lt_of_pos _ hm⟩
 ·rw [if_neg h, if_pos (show ¬ m = 0 by omega)]
  exact ⟨_, rfl, Int.tmod_nonneg _ (by omega), Int.tmod_lt_of_pos _ hm⟩
theorem g34_97 (n : Nat) (a b : Int) : g41 n a b = g34 n a b := by
 unfold g41 g34
 have h := wrap_u64_range (bitsA .xor .u64 a b * 11400714819323198485)
 rw [Int.tdiv_eq_ediv_of_nonneg h.1, Int.fdiv_eq_ediv_of_nonneg _ (by omega), wrap_u64 (x := _ / 4294967296) (by omega) (by omega)]
/-- pick of a list of numbers -/
theorem pickN (n : Nat) (l : List Int) (i m : Int) (hl : ∀ x, x ∈ l → isI64 x) (hm : 0 < m) : ∃ r, g5 n l i m = some r ∧ 0 ≤ r ∧ r < m := by
 unfold g5
 by_cases h : i < 0
 ·rw [if_pos h]; exact ⟨0, rfl, by omega, hm⟩
 rw [if_neg h]
 by_cases h2 : (l.length : Int) ≤ i
 ·rw [if_pos h2]; exact ⟨0, rfl, by omega, hm⟩
 rw [if_neg h2, if_pos (by omega)]
 have : rd l i ∈ l := by
  unfold rd
  rw [List.getD_eq_getElem?_getD, List.getElem?_eq_getElem (by omega), Option.getD_some]
  exact List.getElem_mem _
 obtain ⟨r, hr, h3⟩ := ar n (rd l i) m (hl _ this) hm
 exact ⟨r, by rw [hr]; rfl, h3⟩
theorem rd_nat {α : Type} [Inhabited α] (l : List α) (i : Nat) (h : i < l.length) : rd l (i : Int) = l[i] := by
 unfold rd; rw [Int.toNat_natCast, List.getD_eq_getElem?_getD, List.getElem?_eq_getElem h, Option.getD_some]
theorem wsucc (i : Nat) (h : i < 4611686018427387904) : IntKind.i64.wrap ((i : Int) + 1) = ((i + 1 : Nat) : Int) := by
 rw [wrap_i64 (by omega) (by omega)]; omega
/-- the bytes of a number, seven bits each -/
def ub : Nat → Int → List Int
 | 0, _ => []
 | k + 1, x => if 128 ≤ x then (128 + x % 128) :: ub k (x / 128) else [x]
theorem or128 (x : Int) : bitsA .or .u8 (IntKind.u8.wrap x) 128 = 128 + x % 128 := by
 have e : IntKind.u8.wrap x = x % 256 := by simp only [IntKind.wrap, IntKind.bits, IntKind.signed]; simp
 rw [e]
 have h : ∀ b : Fin 256, bitsA .or .u8 ((b.val : Nat) : Int) 128 = 128 + ((b.val : Nat) : Int) % 128 := by decide +kernel
 have := h ⟨(x % 256).toNat, by omega⟩
 simp only [] at this
 rw [show (((x % 256).toNat : Nat) : Int) = x % 256 by omega] at this
 rw [this]; omega
theorem ub_len : ∀ k x, (ub k x).length ≤ k
 | 0, _ => by simp [ub]
 | k + 1, x => by unfold ub; split <;> simp; exact ub_len k _
theorem ub_u8 : ∀ k x, 0 ≤ x → ∀ b, b ∈ ub k x → 0 ≤ b ∧ b < 256
 | 0, _, _, b, h => by simp [ub] at h
 | k + 1, x, h0, b, h => by
  unfold ub at h
  by_cases h1 : 128 ≤ x
  ·rw [if_pos h1] at h
   rcases List.mem_cons.1 h with rfl | h
   ·omega
   ·exact ub_u8 k _ (by omega) b h
  ·rw [if_neg h1] at h
   obtain rfl := List.mem_singleton.1 h
   omega
theorem l37_ub (n : Nat) : ∀ (j : Nat) (x : Int) (k : Nat) (acc : List Int), 0 ≤ x → x < 18446744073709551616 → x < 128 ^ j → j ≤ k → acc.length + j ≤ 100000 → 1 ≤ j →
  l37_0 n k x acc = some ⟨acc ++ ub j x⟩ ∧ l43_0 n k x acc = some (acc ++ ub j x)
 | 0, _, _, _, _, _, _, _, _, h => by omega
 | j + 1, x, 0, _, _, _, _, h, _, _ => by omega
 | j + 1, x, k + 1, acc, h0, hb, h1, h2, h3, _ => by
  have hl : acc.length + 1 ≤ 140737488355328 := by omega
  unfold l37_0 l43_0 ub
  by_cases h : 128 ≤ x
  ·have hj : 1 ≤ j := by
    rcases j with _ | j
    ·simp at h1; omega
    ·omega
   have hd : Int.fdiv x 128 = x / 128 := Int.fdiv_eq_ediv_of_nonneg _ (by omega)
   have hx : x / 128 < 128 ^ j := by
    have : (128 : Int) ^ (j + 1) = 128 ^ j * 128 := by rw [Int.pow_succ]
    omega
   have := l37_ub n j (x / 128) k (acc ++ [128 + x % 128]) (by omega) (by omega) hx (by omega) (by simp; omega) hj
   rw [if_pos h, if_pos (show 127 < x by omega), if_pos hl, if_pos hl, if_pos h, hd, or128, Int.tdiv_eq_ediv_of_nonneg h0, wrap_u64 (x := x / 128) (by omega) (by omega), Int.tmod_eq_emod_of_nonneg h0, wrap_u64 (x := 128 + _) (by omega) (by omega), wrap_u8 (x := 128 + _) (by omega) (by omega), this.1, this.2]
   simp
  ·rw [if_neg h, if_neg (show ¬ 127 < x by omega), if_pos hl, if_pos hl, if_neg h, wrap_u8 (by omega) (by omega)]
   exact ⟨rfl, rfl⟩
theorem g37_ub (n : Nat) (hn : 1000 ≤ n) (x : Int) (hx : isU64 x) (acc : List Int) (ha : acc.length ≤ 10000) : g37 n ⟨acc⟩ x = some ⟨acc ++ ub 10 x⟩ :=
 (l37_ub n 10 x n acc hx.1 hx.2 (by have := hx.2; omega) (by omega) (by omega) (by omega)).1
theorem g43_ub (n : Nat) (hn : 1000 ≤ n) (x : Int) (hx : isU64 x) : g43 n x = some (ub 10 x) := by
 have := (l37_ub n 10 x n [] hx.1 hx.2 (by have := hx.2; omega) (by omega) (by simp) (by omega)).2
 unfold g43; simpa using this
/-- zigzag of a number that is not negative -/
theorem zz (n : Nat) (a : Int) (h0 : 0 ≤ a) (h1 : a < 4611686018427387904) : g54 n a = some (2 * a) ∧ g56 n a = some (2 * a) := by
 unfold g54 g56
 rw [if_neg (by omega), wrap_u64 (x := a) h0 (by omega), wrap_u64 (x := a * 2) (by omega) (by omega), wrap_u64 (x := 2 * a) (by omega) (by omega)]
 have : Int.fdiv a 9223372036854775808 = 0 := by rw [Int.fdiv_eq_ediv_of_nonneg _ (by omega)]; omega
 rw [this, wrap_u64 (by omega) (by omega)]
 refine ⟨?_, rfl⟩
 obtain ⟨m, rfl⟩ := Int.eq_ofNat_of_zero_le h0
 have : bitsA .xor .u64 ((m : Int) * 2) 0 = (m : Int) * 2 := by
  simp only [bitsA]
  have e0 : BitVec.ofInt IntKind.u64.bits 0 = 0#(IntKind.u64.bits) := by rfl
  rw [e0, BitVec.xor_zero, BitVec.toNat_ofInt, wrap_u64 (by simp [IntKind.bits]; omega) (by simp [IntKind.bits]; omega)]
  simp [IntKind.bits]; omega
 rw [this, Int.mul_comm]
theorem g36_ub (n : Nat) (hn : 1000 ≤ n) (x : Int) (h0 : 0 ≤ x) (h1 : x < 4611686018427387904) (acc : List Int) (ha : acc.length ≤ 10000) : g36 n ⟨acc⟩ x = some ⟨acc ++ ub 10 (2 * x)⟩ := by
 unfold g36
 rw [(zz n x h0 h1).1]; simp only [Option.bind_some]
 rw [g37_ub n hn (2 * x) ⟨by omega, by omega⟩ acc ha]; rfl
theorem g42_ub (n : Nat) (hn : 1000 ≤ n) (x : Int) (h0 : 0 ≤ x) (h1 : x < 4611686018427387904) : g42 n x = some (ub 10 (2 * x)) := by
 unfold g42
 rw [(zz n x h0 h1).2]; simp only [Option.bind_some]
 rw [g43_ub n hn (2 * x) ⟨by omega, by omega⟩]; rfl
end Go.Av
end
