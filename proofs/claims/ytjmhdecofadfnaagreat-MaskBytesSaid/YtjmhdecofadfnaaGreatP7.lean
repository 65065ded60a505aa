/- the plain law, part 7 -/
import Derived.Test.YtjmhdecofadfnaaGreatP6
set_option autoImplicit false
set_option linter.unusedSimpArgs false
set_option linter.unusedVariables false
set_option linter.unnecessarySimpa false
section
namespace Go.Av
theorem l136_vu (n : Nat) : ∀ (k x : Nat) (l : List Int), x < 128 ^ (k + 1) → x < 18446744073709551616 → l.length + k < 140737488355328 → l136_0 n (k + 1) (x : Int) l = some (l ++ vu x)
 | k, x, l, h1, h3, h2 => by
  unfold l136_0
  by_cases h : x < 128
  ·rw [if_neg (by omega), if_pos (by omega), wrap_u8 (by omega) (by omega), vu_lt h]
  ·rw [if_pos (by omega), if_pos (by omega)]
   cases k with
   | zero => omega
   | succ k =>
    have e : Int.tdiv (x : Int) 128 = ((x / 128 : Nat) : Int) := by
     rw [Int.tdiv_eq_ediv_of_nonneg (by omega)]; omega
    have e2 : Int.tmod (x : Int) 128 = ((x % 128 : Nat) : Int) := by
     rw [Int.tmod_eq_emod_of_nonneg (by omega)]; omega
    have hx : x / 128 < 128 ^ (k + 1) := by
     rw [Nat.div_lt_iff_lt_mul (by decide)]; rw [Nat.pow_succ] at h1; exact h1
    have e3 : IntKind.u8.wrap (IntKind.u64.wrap (128 + ((x % 128 : Nat) : Int))) = ((x % 128 + 128 : Nat) : Int) := by
     rw [wrap_u64 (by omega) (by omega), wrap_u8 (by omega) (by omega)]; omega
    rw [e, e2, e3, wrap_u64 (by omega) (by omega), l136_vu n k (x / 128) _ hx (by omega) (by simp; omega), vu_ge h]
    simp
theorem g136_vu (n x : Nat) (h : x < 18446744073709551616) (hn : 11 ≤ n) (hl : n < 140737488355328) : g136 n (x : Int) = some (vu x) := by
 obtain ⟨k, rfl⟩ : ∃ k, n = k + 1 := ⟨n - 1, by omega⟩
 have := l136_vu (k + 1) k x [] (by
  have : 128 ^ 11 ≤ 128 ^ (k + 1) := Nat.pow_le_pow_right (by decide) hn
  have : (18446744073709551616 : Nat) ≤ 128 ^ 11 := by decide
  omega) h (by simp; omega)
 simpa [g136] using this
theorem g91_vi (n : Nat) {a : Int} (h : isI64 a) (hn : 11 ≤ n) (hl : n < 140737488355328) : g91 n a = some (vi a) := by
 unfold g91
 rw [g137_zz n h, Option.bind_some, g136_vu n _ (zz2_lt h) hn hl, Option.bind_some]; rfl
end Go.Av
end
