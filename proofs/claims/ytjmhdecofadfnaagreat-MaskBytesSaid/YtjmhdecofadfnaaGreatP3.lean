/- the plain law, part 3 -/
import Derived.Test.YtjmhdecofadfnaaGreatP2
set_option autoImplicit false
set_option linter.unusedSimpArgs false
set_option linter.unusedVariables false
set_option linter.unnecessarySimpa false
section
namespace Go.Av
theorem g138_cons (n : Nat) (b : Int) (bs : List Int) : g138 n ⟨b :: bs, 0⟩ = some (b, ⟨bs, 0⟩) := by
 unfold g138
 rw [if_neg (by simp <;> omega), if_pos rfl, if_pos (by simp <;> omega), if_pos (by simp)]
 simp [rd]
theorem uval {a i b : Nat} (hi : i ≤ 9) (ha : a < 2 ^ (7 * i)) (hb : b < 256) (h : a + 2 ^ (7 * i) * (b % 128) < 18446744073709551616) :
  bitsA .or .u64 (a : Int) (IntKind.u64.wrap ((IntKind.u64.wrap (bitsA .andNot .u8 (b : Int) 128)) * 2 ^ (min (Int.toNat (IntKind.i64.wrap (7 * (i : Int)))) (IntKind.u64.bits)))) = ((a + 2 ^ (7 * i) * (b % 128) : Nat) : Int) := by
 have h7 : IntKind.i64.wrap (7 * (i : Int)) = ((7 * i : Nat) : Int) := by rw [wrap_i64] <;> omega
 have hm : min (7 * i) (IntKind.u64.bits) = 7 * i := Nat.min_eq_left (show 7 * i ≤ 64 by omega)
 have hw : IntKind.u64.wrap ((b % 128 : Nat) : Int) = ((b % 128 : Nat) : Int) := by rw [wrap_u64] <;> omega
 have hc : ((b % 128 : Nat) : Int) * 2 ^ (7 * i) = ((2 ^ (7 * i) * (b % 128) : Nat) : Int) := by
  rw [Int.natCast_mul, Int.natCast_pow, Int.mul_comm]; rfl
 rw [andNot8 hb, h7, Int.toNat_natCast, hm, hw, hc, wrap_u64 (by omega) (by omega), or64 ha h]
theorem l93_vu (n : Nat) : ∀ (k i a x : Nat) (rest : List Int), a < 2 ^ (7 * i) → a + 2 ^ (7 * i) * x < 18446744073709551616 → i ≤ 9 → (i = 9 → x < 2) → (0 < i → 0 < x) → 10 ≤ k + i → l93_0 n k (a : Int) (i : Int) (vu x ++ rest) 0 = some (((a + 2 ^ (7 * i) * x : Nat) : Int), ⟨rest, 0⟩)
 | 0, _, _, _, _, _, _, _, _, _, _ => by omega
 | k + 1, i, a, x, rest, ha, hx, hi, h9, h0, hk => by
  have h7 : ¬ (IntKind.i64.wrap (7 * (i : Int)) < 0) := by rw [wrap_i64] <;> omega
  unfold l93_0
  rw [if_pos rfl]
  by_cases h : x < 128
  ·have e : x % 128 = x := by omega
   have hv := uval (b := x) hi ha (by omega) (by rw [e]; exact hx)
   rw [e] at hv
   rw [vu_lt h, List.cons_append, List.nil_append, g138_cons]
   simp only [Option.bind_some, hv, h7, not_false_eq_true, if_true]
   repeat' (first | (exfalso; omega) | split | rfl)
  ·have hb : x % 128 + 128 < 256 := by omega
   have e : (x % 128 + 128) % 128 = x % 128 := by omega
   have hle : 2 ^ (7 * i) * (x % 128) ≤ 2 ^ (7 * i) * x := Nat.mul_le_mul_left _ (Nat.mod_le _ _)
   have hv := uval (b := x % 128 + 128) hi ha hb (by rw [e]; omega)
   rw [e] at hv
   have hi9 : i ≠ 9 := fun h' => by have := h9 h'; omega
   have hw : IntKind.i64.wrap ((i : Int) + 1) = ((i + 1 : Nat) : Int) := by rw [wrap_i64] <;> omega
   have hp : 2 ^ (7 * (i + 1)) = 2 ^ (7 * i) * 128 := by rw [show 7 * (i + 1) = 7 * i + 7 by omega, Nat.pow_add]
   have hd : 2 ^ (7 * i) * x = 2 ^ (7 * i) * (x % 128) + 2 ^ (7 * (i + 1)) * (x / 128) := by
    rw [hp, Nat.mul_assoc, ← Nat.mul_add]; congr 1; omega
   have hm : 2 ^ (7 * i) * (x % 128) ≤ 2 ^ (7 * i) * 127 := Nat.mul_le_mul_left _ (by omega)
   have hr := l93_vu n k (i + 1) (a + 2 ^ (7 * i) * (x % 128)) (x / 128) rest (by rw [hp]; omega) (by omega) (by omega)
    (fun h8 => by
     have : i = 8 := by omega
     subst this
     have : (2 : Nat) ^ (7 * 8) = 72057594037927936 := by decide
     omega) (fun _ => by omega) (by omega)
   have hr' : ((a + 2 ^ (7 * i) * (x % 128) + 2 ^ (7 * (i + 1)) * (x / 128) : Nat) : Int) = ((a + 2 ^ (7 * i) * x : Nat) : Int) := by rw [hd]; congr 1; omega
   rw [hr'] at hr
   rw [vu_ge h, List.cons_append, g138_cons]
   simp only [Option.bind_some, hv, h7, hw, hr, not_false_eq_true, if_true]
   repeat' (first | (exfalso; omega) | split | rfl)
theorem g93_vu (n x : Nat) (rest : List Int) (h : x < 18446744073709551616) (hn : 10 ≤ n) : g93 n ⟨vu x ++ rest, 0⟩ = some ((x : Int), ⟨rest, 0⟩) := by
 have := l93_vu n n 0 0 x rest (by decide) (by simpa using h) (by omega) (fun h => by omega) (fun h => by omega) (by omega)
 unfold g93
 simpa using this
end Go.Av
end
