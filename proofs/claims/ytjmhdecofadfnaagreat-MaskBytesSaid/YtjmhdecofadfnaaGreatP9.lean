/- the plain law, part 9 -/
import Derived.Test.YtjmhdecofadfnaaGreatP8
set_option autoImplicit false
set_option linter.unusedSimpArgs false
set_option linter.unusedVariables false
set_option linter.unnecessarySimpa false
section
namespace Go.Av
theorem vu_u8 : ∀ (k x : Nat), x < 128 ^ k → 0 < k → ∀ b, b ∈ vu x → (0 : Int) ≤ b ∧ b < 256
 | 0, _, _, h => by omega
 | k + 1, x, h, _ => fun b hb => by
  by_cases c : x < 128
  ·rw [vu_lt c, List.mem_singleton] at hb; omega
  ·rw [vu_ge c] at hb
   rcases List.mem_cons.1 hb with hb | hb
   ·omega
   ·cases k with
    | zero => omega
    | succ k =>
     refine vu_u8 (k + 1) (x / 128) ?_ (by omega) b hb
     rw [Nat.div_lt_iff_lt_mul (by decide)]; rw [Nat.pow_succ] at h; exact h
theorem vu_u810 {x : Nat} (h : x < 18446744073709551616) : ∀ b, b ∈ vu x → (0 : Int) ≤ b ∧ b < 256 := vu_u8 10 x (Nat.lt_of_lt_of_le h (by decide)) (by decide)
theorem vi_u8 {a : Int} (h : isI64 a) : ∀ b, b ∈ vi a → (0 : Int) ≤ b ∧ b < 256 := vu_u810 (zz2_lt h)
end Go.Av
end
