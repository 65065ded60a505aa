/- the plain law, part 5 -/
import Derived.Test.YtjmhdecofadfnaaGreatP4
set_option autoImplicit false
set_option linter.unusedSimpArgs false
set_option linter.unusedVariables false
set_option linter.unnecessarySimpa false
section
namespace Go.Av
theorem vu_len : ∀ (k x : Nat), x < 128 ^ k → 0 < k → (vu x).length ≤ k
 | 0, _, _, h => by omega
 | k + 1, x, h, _ => by
  by_cases hx : x < 128
  ·rw [vu_lt hx]; simp
  ·rw [vu_ge hx]
   cases k with
   | zero => omega
   | succ k =>
    have : x / 128 < 128 ^ (k + 1) := by
     rw [Nat.div_lt_iff_lt_mul (by decide)]; rw [Nat.pow_succ] at h; exact h
    have := vu_len (k + 1) _ this (by omega)
    simp; omega
theorem vu_len10 {x : Nat} (h : x < 18446744073709551616) : (vu x).length ≤ 10 := vu_len 10 x (Nat.lt_of_lt_of_le h (by decide)) (by decide)
theorem vu_pos (x : Nat) : 1 ≤ (vu x).length := by
 by_cases hx : x < 128
 ·rw [vu_lt hx]; simp
 ·rw [vu_ge hx]; simp
/-- a signed number's bytes -/
def vi (a : Int) : List Int := vu (zz2 a)
theorem vi_len {a : Int} (h : isI64 a) : (vi a).length ≤ 10 := vu_len10 (zz2_lt h)
def fl (f : Int → List Int) (a : List Int) : List Int := (a.map f).flatten
theorem fl_nil (f : Int → List Int) : fl f [] = [] := rfl
theorem fl_cons (f : Int → List Int) (x : Int) (a : List Int) : fl f (x :: a) = f x ++ fl f a := by simp [fl]
theorem g87_vi (n : Nat) {a : Int} (l : List Int) (h : isI64 a) (hn : 11 ≤ n) (hl : l.length + n < 140737488355328) : g87 n ⟨l⟩ a = some ⟨l ++ vi a⟩ := g87_vu n l h hn hl
end Go.Av
end
