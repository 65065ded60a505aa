/- the plain law, part 17 -/
import Derived.Test.YtjmhdecofadfnaaGreatP16
set_option autoImplicit false
set_option linter.unusedSimpArgs false
set_option linter.unusedVariables false
set_option linter.unnecessarySimpa false
section
set_option linter.unusedSimpArgs false
set_option linter.unusedVariables false
namespace Go.Av
/-- the quotient, rounded up -/
def colv (p q : Int) : Int := if 0 < Int.tmod p q then Int.tdiv p q + 1 else Int.tdiv p q
theorem tmod_lo (a m : Int) (hm : 0 < m) : -m < Int.tmod a m := by
 rcases Int.le_total 0 a with h | h
 ·have := Int.tmod_nonneg m h; omega
 ·have e : Int.tmod a m = -(Int.tmod (-a) m) := by rw [Int.neg_tmod, Int.neg_neg]
  have := Int.tmod_lt_of_pos (-a) hm
  omega
theorem colv_spec (p q : Int) (hq : 0 < q) : q * (colv p q - 1) < p ∧ p ≤ q * colv p q := by
 have h1 := Int.mul_tdiv_add_tmod p q
 have h2 := Int.tmod_lt_of_pos p hq
 have h3 := tmod_lo p q hq
 unfold colv
 split
 ·rw [Int.add_sub_cancel, Int.mul_add, Int.mul_one]; omega
 ·rw [Int.mul_sub, Int.mul_one]; omega
theorem colv_uniq {p q v : Int} (hq : 0 < q) (h1 : q * (v - 1) < p) (h2 : p ≤ q * v) : colv p q = v := by
 obtain ⟨k1, k2⟩ := colv_spec p q hq
 have a1 : q * (v - 1) < q * colv p q := by omega
 have a2 : q * (colv p q - 1) < q * v := by omega
 have b1 := Int.lt_of_mul_lt_mul_left a1 (by omega)
 have b2 := Int.lt_of_mul_lt_mul_left a2 (by omega)
 omega
theorem tdiv_bd (p q : Int) (hq : 0 < q) (M : Int) (h : -M ≤ p ∧ p ≤ M) : -M ≤ Int.tdiv p q ∧ Int.tdiv p q ≤ M := by
 have h1 := Int.natAbs_tdiv p q
 have h2 : p.natAbs / q.natAbs ≤ p.natAbs := Nat.div_le_self _ _
 have h3 : (Int.tdiv p q).natAbs ≤ p.natAbs := by rw [h1]; exact h2
 omega
theorem g106_ok (n : Nat) (p q : Int) (hq : 0 < q) (h : -100000000000 ≤ p ∧ p ≤ 100000000000) : g106 n p q = some (colv p q) := by
 have hb := tdiv_bd p q hq _ h
 unfold g106 colv
 rw [if_pos (by omega), if_pos (by omega), show IntKind.i64.wrap (Int.tdiv p q) = Int.tdiv p q by rw [wrap_i64] <;> omega, show IntKind.i64.wrap (Int.tdiv p q + 1) = Int.tdiv p q + 1 by rw [wrap_i64] <;> omega]
 split <;> rfl
/-- the number whose quotient by twice the height is the column at a row with the middle m -/
def numE (wx m : Int) (P Q : S0) : Int := if Q.c1 - P.c1 < 0 then (2 * (P.c0 - wx) - 1) * (P.c1 - Q.c1) + (m - 2 * P.c1) * (P.c0 - Q.c0) else (2 * (P.c0 - wx) - 1) * (Q.c1 - P.c1) + (m - 2 * P.c1) * (Q.c0 - P.c0)
def denE (P Q : S0) : Int := if Q.c1 - P.c1 < 0 then 2 * (P.c1 - Q.c1) else 2 * (Q.c1 - P.c1)
def Sm (p : S0) : Prop := -10000 ≤ p.c0 ∧ p.c0 ≤ 10000 ∧ -10000 ≤ p.c1 ∧ p.c1 ≤ 10000
def midY (w : S9) (y : Int) : Int := 2 * (w.c1 + y) + 1
def SmW (w : S9) : Prop := -10000 ≤ w.c0 ∧ w.c0 ≤ 10000 ∧ -10000 ≤ w.c1 ∧ w.c1 ≤ 10000
theorem edge_round (n : Nat) (R : Int → List Int → Option (List Int)) (ring : List S0) (w : S9) (y : Int) (k i : Nat) (acc : List Int) (P Q : S0) (hP : rd ring (i : Int) = P) (hi : i < ring.length) (hl : ring.length ≤ 1000)
  (hQ : rd ring (((i + 1) % ring.length : Nat) : Int) = Q) (sP : Sm P) (sQ : Sm Q) (sw : SmW w) (hy : 0 ≤ y ∧ y ≤ 10000) (ha : acc.length ≤ 10000) :
  l69_1 n R ⟨[ring]⟩ w y 0 (k + 1) (i : Int) acc = if (2 * P.c1 ≤ midY w y) = (2 * Q.c1 ≤ midY w y) then l69_1 n R ⟨[ring]⟩ w y 0 k ((i + 1 : Nat) : Int) acc
   else l69_1 n R ⟨[ring]⟩ w y 0 k ((i + 1 : Nat) : Int) (acc ++ [colv (numE w.c0 (midY w y) P Q) (denE P Q)]) := by
 have r0 : rd [ring] 0 = ring := rfl
 have W : ∀ x : Int, -10000000000000 ≤ x → x ≤ 10000000000000 → IntKind.i64.wrap x = x := fun x h1 h2 => by rw [wrap_i64] <;> omega
 have e1 : Int.tmod ((i + 1 : Nat) : Int) (ring.length : Int) = (((i + 1) % ring.length : Nat) : Int) := rfl
 have w1 : IntKind.i64.wrap ((i : Int) + 1) = ((i + 1 : Nat) : Int) := by rw [wrap_i64] <;> omega
 have hm := Nat.mod_lt (i + 1) (show 0 < ring.length by omega)
 obtain ⟨p1, p2, p3, p4⟩ := sP
 obtain ⟨q1, q2, q3, q4⟩ := sQ
 obtain ⟨w2, w3, w4, w5⟩ := sw
 have m1 : IntKind.i64.wrap (IntKind.i64.wrap (2 * IntKind.i64.wrap (w.c1 + y)) + 1) = midY w y := by
  unfold midY
  rw [W (w.c1 + y) (by omega) (by omega), W (2 * (w.c1 + y)) (by omega) (by omega), W _ (by omega) (by omega)]
 have hM : -60000 ≤ midY w y ∧ midY w y ≤ 60000 := by unfold midY; omega
 conv => lhs; unfold l69_1
 simp only [r0, w1, e1, hP, hQ, m1]
 rw [if_pos (by omega), if_pos (by omega), if_pos (by omega), if_pos (by omega)]
 rw [W (2 * P.c1) (by omega) (by omega), W (2 * Q.c1) (by omega) (by omega), W (Q.c1 - P.c1) (by omega) (by omega), W (P.c0 - w.c0) (by omega) (by omega), W (2 * (P.c0 - w.c0)) (by omega) (by omega),
  W (2 * (P.c0 - w.c0) - 1) (by omega) (by omega), W (midY w y - 2 * P.c1) (by omega) (by omega), W (Q.c0 - P.c0) (by omega) (by omega), W (0 - (Q.c1 - P.c1)) (by omega) (by omega), W (0 - (Q.c0 - P.c0)) (by omega) (by omega),
  W (2 * (0 - (Q.c1 - P.c1))) (by omega) (by omega), W (2 * (Q.c1 - P.c1)) (by omega) (by omega)]
 have hd : ((decide (2 * P.c1 ≤ midY w y)) == (decide (2 * Q.c1 ≤ midY w y))) = true ↔ (2 * P.c1 ≤ midY w y) = (2 * Q.c1 ≤ midY w y) := by
  by_cases c : 2 * P.c1 ≤ midY w y <;> by_cases d : 2 * Q.c1 ≤ midY w y <;> simp [c, d]
 by_cases c : (2 * P.c1 ≤ midY w y) = (2 * Q.c1 ≤ midY w y)
 ·rw [if_pos (hd.2 c), if_pos c]
 ·rw [if_neg (fun e => c (hd.1 e)), if_neg c]
  have hne : P.c1 ≠ Q.c1 := fun e => c (by rw [e])
  have b1 := mul_bd (2 * (P.c0 - w.c0) - 1) (0 - (Q.c1 - P.c1)) 200000 (by omega) (by omega)
  have b2 := mul_bd (midY w y - 2 * P.c1) (0 - (Q.c0 - P.c0)) 200000 (by omega) (by omega)
  have b3 := mul_bd (2 * (P.c0 - w.c0) - 1) (Q.c1 - P.c1) 200000 (by omega) (by omega)
  have b4 := mul_bd (midY w y - 2 * P.c1) (Q.c0 - P.c0) 200000 (by omega) (by omega)
  by_cases s : Q.c1 - P.c1 < 0
  ·rw [if_pos s, W ((2 * (P.c0 - w.c0) - 1) * (0 - (Q.c1 - P.c1))) (by omega) (by omega), W ((midY w y - 2 * P.c1) * (0 - (Q.c0 - P.c0))) (by omega) (by omega), W _ (by omega) (by omega), g106_ok n _ _ (by omega) (by omega), Option.bind_some, if_pos (by omega)]
   unfold numE denE
   rw [if_pos s, if_pos s, show 0 - (Q.c1 - P.c1) = P.c1 - Q.c1 by omega, show 0 - (Q.c0 - P.c0) = P.c0 - Q.c0 by omega]
  ·rw [if_neg s, W ((2 * (P.c0 - w.c0) - 1) * (Q.c1 - P.c1)) (by omega) (by omega), W ((midY w y - 2 * P.c1) * (Q.c0 - P.c0)) (by omega) (by omega), W _ (by omega) (by omega), g106_ok n _ _ (by omega) (by omega), Option.bind_some, if_pos (by omega)]
   unfold numE denE
   rw [if_neg s, if_neg s]
end Go.Av
end
