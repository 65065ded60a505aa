/- the plain law, part 2 -/
import Derived.Test.YtjmhdecofadfnaaGreatP1
set_option autoImplicit false
set_option linter.unusedSimpArgs false
set_option linter.unusedVariables false
set_option linter.unnecessarySimpa false
section
namespace Go.Av
/-- a number's bytes -/
def vu (x : Nat) : List Int := if x < 128 then [(x : Int)] else ((x % 128 + 128 : Nat) : Int) :: vu (x / 128)
termination_by x
decreasing_by omega
theorem vu_lt {x : Nat} (h : x < 128) : vu x = [(x : Int)] := by rw [vu, if_pos h]
theorem vu_ge {x : Nat} (h : ¬ x < 128) : vu x = ((x % 128 + 128 : Nat) : Int) :: vu (x / 128) := by rw [vu, if_neg h]
theorem or8 {b : Nat} (h : b < 256) : bitsA .or .u8 (b : Int) 128 = ((b % 128 + 128 : Nat) : Int) := by
 have : ∀ b : Fin 256, bitsA .or .u8 ((b.val : Nat) : Int) 128 = ((b.val % 128 + 128 : Nat) : Int) := by decide +kernel
 exact this ⟨b, h⟩
theorem andNot8 {b : Nat} (h : b < 256) : bitsA .andNot .u8 (b : Int) 128 = ((b % 128 : Nat) : Int) := by
 have : ∀ b : Fin 256, bitsA .andNot .u8 ((b.val : Nat) : Int) 128 = ((b.val % 128 : Nat) : Int) := by decide +kernel
 exact this ⟨b, h⟩
theorem or64 {a x i : Nat} (h1 : a < 2 ^ i) (h2 : a + 2 ^ i * x < 18446744073709551616) : bitsA .or .u64 (a : Int) ((2 ^ i * x : Nat) : Int) = ((a + 2 ^ i * x : Nat) : Int) := by
 have e1 : a % 2 ^ 64 = a := Nat.mod_eq_of_lt (by omega)
 have e2 : (2 ^ i * x) % 2 ^ 64 = 2 ^ i * x := Nat.mod_eq_of_lt (by omega)
 show IntKind.u64.wrap ((BitVec.ofInt 64 (a : Int) ||| BitVec.ofInt 64 ((2 ^ i * x : Nat) : Int)).toNat : Int) = _
 rw [BitVec.ofInt_natCast, BitVec.ofInt_natCast, BitVec.toNat_or, BitVec.toNat_ofNat, BitVec.toNat_ofNat, e1, e2]
 rw [Nat.or_comm, ← Nat.two_pow_add_eq_or_of_lt h1, Nat.add_comm]
 rw [wrap_u64] <;> omega
theorem l134_vu (n : Nat) : ∀ (k x : Nat) (l : List Int), x < 128 ^ (k + 1) → l.length + k < 140737488355328 → l134_0 n (k + 1) (x : Int) l = some ⟨l ++ vu x⟩
 | k, x, l, h1, h2 => by
  unfold l134_0
  by_cases h : x < 128
  ·rw [if_neg (by omega), if_pos (by omega), wrap_u8 (by omega) (by omega), vu_lt h]
  ·rw [if_pos (by omega), if_pos (by omega)]
   cases k with
   | zero => omega
   | succ k =>
    have e : Int.fdiv (x : Int) 128 = ((x / 128 : Nat) : Int) := by
     rw [Int.fdiv_eq_ediv_of_nonneg _ (by omega)]; omega
    have e2 : IntKind.u8.wrap (x : Int) = ((x % 256 : Nat) : Int) := by
     have : IntKind.u8.wrap (x : Int) = (x : Int) % 256 := rfl
     omega
    have hx : x / 128 < 128 ^ (k + 1) := by
     rw [Nat.div_lt_iff_lt_mul (by decide)]; rw [Nat.pow_succ] at h1; exact h1
    rw [e, e2, or8 (Nat.mod_lt _ (by decide)), l134_vu n k (x / 128) _ hx (by simp; omega), vu_ge h]
    have : x % 256 % 128 = x % 128 := by omega
    rw [this]; simp
theorem g134_vu (n x : Nat) (l : List Int) (h : x < 18446744073709551616) (hn : 11 ≤ n) (hl : l.length + n < 140737488355328) : g134 n ⟨l⟩ (x : Int) = some ⟨l ++ vu x⟩ := by
 obtain ⟨k, rfl⟩ : ∃ k, n = k + 1 := ⟨n - 1, by omega⟩
 refine l134_vu _ k x l ?_ (by omega)
 have : 128 ^ 11 ≤ 128 ^ (k + 1) := Nat.pow_le_pow_right (by decide) hn
 have : (18446744073709551616 : Nat) ≤ 128 ^ 11 := by decide
 omega
end Go.Av
end
