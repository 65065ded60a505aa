/- the plain law, part 18 -/
import Derived.Test.YtjmhdecofadfnaaGreatP17
set_option autoImplicit false
set_option linter.unusedSimpArgs false
set_option linter.unusedVariables false
set_option linter.unnecessarySimpa false
section
set_option linter.unusedSimpArgs false
set_option linter.unusedVariables false
namespace Go.Av
theorem ms2 (a b : Int) (h : b ≤ a) : List.mergeSort [a, b] (fun x y => decide (x ≤ y)) = [b, a] := by
 by_cases c : a ≤ b
 ·have : a = b := by omega
  subst this
  simp [List.mergeSort, List.merge, List.MergeSort.Internal.splitInTwo]
 ·simp [List.mergeSort, List.merge, List.MergeSort.Internal.splitInTwo, c]
def col (wx m xt xb t b : Int) : Int := colv ((2 * (xt - wx) - 1) * (b - t) + (m - 2 * t) * (xb - xt)) (2 * (b - t))
theorem col_mono {wx m xt xb xt' xb' t b : Int} (htb : t < b) (h1 : xt ≤ xt') (h2 : xb ≤ xb') (m1 : 2 * t ≤ m) (m2 : m < 2 * b) : col wx m xt xb t b ≤ col wx m xt' xb' t b := by
 have a1 : 0 ≤ (xt' - xt) * (2 * (b - t) - (m - 2 * t)) := Int.mul_nonneg (by omega) (by omega)
 have a2 : 0 ≤ (xb' - xb) * (m - 2 * t) := Int.mul_nonneg (by omega) (by omega)
 have hp : (2 * (xt - wx) - 1) * (b - t) + (m - 2 * t) * (xb - xt) ≤ (2 * (xt' - wx) - 1) * (b - t) + (m - 2 * t) * (xb' - xt') := by grind
 obtain ⟨k1, k2⟩ := colv_spec ((2 * (xt - wx) - 1) * (b - t) + (m - 2 * t) * (xb - xt)) (2 * (b - t)) (by omega)
 obtain ⟨k3, k4⟩ := colv_spec ((2 * (xt' - wx) - 1) * (b - t) + (m - 2 * t) * (xb' - xt')) (2 * (b - t)) (by omega)
 unfold col
 have := Int.lt_of_mul_lt_mul_left (Int.lt_of_lt_of_le k1 (Int.le_trans hp k4)) (by omega)
 omega
/-- a straight side -/
theorem col_const {wx m x t b : Int} (htb : t < b) : col wx m x x t b = x - wx := by
 unfold col
 rw [Int.sub_self, Int.mul_zero, Int.add_zero]
 refine colv_uniq (by omega) ?_ ?_
 ·have : 0 < b - t := by omega
  grind
 ·have : 0 < b - t := by omega
  grind
theorem cross_in (n : Nat) (hn : 10 ≤ n) {x1 x2 x3 x4 t b : Int} (h : Tr x1 x2 x3 x4 t b) (w : S9) (sw : SmW w) (y : Int) (hy : 0 ≤ y ∧ y ≤ 10000) (m1 : 2 * t ≤ midY w y) (m2 : midY w y < 2 * b) :
  g69 n ⟨[trap x1 x2 x3 x4 t b]⟩ w y = some [col w.c0 (midY w y) x1 x4 t b, col w.c0 (midY w y) x2 x3 t b] := by
 obtain ⟨k, rfl⟩ : ∃ k, n = k + 6 := ⟨n - 6, by omega⟩
 have hl : (trap x1 x2 x3 x4 t b).length = 4 := rfl
 have sA : Sm ⟨x1, t⟩ := by have := h.b1; have := h.bt; unfold Sm; simp only; omega
 have sB : Sm ⟨x2, t⟩ := by have := h.b2; have := h.bt; unfold Sm; simp only; omega
 have sC : Sm ⟨x3, b⟩ := by have := h.b3; have := h.bb; unfold Sm; simp only; omega
 have sD : Sm ⟨x4, b⟩ := by have := h.b4; have := h.bb; unfold Sm; simp only; omega
 have htb := h.htb
 have f1 : ¬ ((2 * t ≤ midY w y) = (2 * b ≤ midY w y)) := fun e => by have : 2 * b ≤ midY w y := e ▸ m1; omega
 have f2 : ¬ ((2 * b ≤ midY w y) = (2 * t ≤ midY w y)) := fun e => f1 e.symm
 unfold g69 l69_0
 have r0 : rd [trap x1 x2 x3 x4 t b] 0 = trap x1 x2 x3 x4 t b := rfl
 rw [if_pos (by simp), if_pos (by simp)]
 have E0 := edge_round (k + 6) (l69_0 (k + 6) ⟨[trap x1 x2 x3 x4 t b]⟩ w y (k + 5)) (trap x1 x2 x3 x4 t b) w y (k + 5) 0 [] ⟨x1, t⟩ ⟨x2, t⟩ rfl (by rw [hl]; omega) (by rw [hl]; omega) rfl sA sB sw hy (by simp)
 have E1 := edge_round (k + 6) (l69_0 (k + 6) ⟨[trap x1 x2 x3 x4 t b]⟩ w y (k + 5)) (trap x1 x2 x3 x4 t b) w y (k + 4) 1 [] ⟨x2, t⟩ ⟨x3, b⟩ rfl (by rw [hl]; omega) (by rw [hl]; omega) rfl sB sC sw hy (by simp)
 have E2 := fun acc (ha : acc.length ≤ 10000) => edge_round (k + 6) (l69_0 (k + 6) ⟨[trap x1 x2 x3 x4 t b]⟩ w y (k + 5)) (trap x1 x2 x3 x4 t b) w y (k + 3) 2 acc ⟨x3, b⟩ ⟨x4, b⟩ rfl (by rw [hl]; omega) (by rw [hl]; omega) rfl sC sD sw hy ha
 have E3 := fun acc (ha : acc.length ≤ 10000) => edge_round (k + 6) (l69_0 (k + 6) ⟨[trap x1 x2 x3 x4 t b]⟩ w y (k + 5)) (trap x1 x2 x3 x4 t b) w y (k + 2) 3 acc ⟨x4, b⟩ ⟨x1, t⟩ rfl (by rw [hl]; omega) (by rw [hl]; omega) (by rw [hl]; rfl) sD sA sw hy ha
 rw [if_pos rfl] at E0
 rw [if_neg f1] at E1
 refine E0.trans (E1.trans ?_)
 rw [List.nil_append]
 refine (E2 _ (by simp)).trans ?_
 rw [if_pos rfl]
 refine (E3 _ (by simp)).trans ?_
 rw [if_neg f2]
 have d1 : denE ⟨x2, t⟩ ⟨x3, b⟩ = 2 * (b - t) := by unfold denE; rw [if_neg (by simp only; omega)]
 have d2 : denE ⟨x4, b⟩ ⟨x1, t⟩ = 2 * (b - t) := by unfold denE; rw [if_pos (by simp only; omega)]
 have n1 : numE w.c0 (midY w y) ⟨x2, t⟩ ⟨x3, b⟩ = (2 * (x2 - w.c0) - 1) * (b - t) + (midY w y - 2 * t) * (x3 - x2) := by unfold numE; rw [if_neg (by simp only; omega)]
 have n2 : numE w.c0 (midY w y) ⟨x4, b⟩ ⟨x1, t⟩ = (2 * (x1 - w.c0) - 1) * (b - t) + (midY w y - 2 * t) * (x4 - x1) := by unfold numE; rw [if_pos (by simp only; omega)]; simp only; grind
 rw [d1, d2, n1, n2]
 unfold l69_1
 rw [if_neg (by rw [r0, hl]; simp)]
 unfold l69_0
 rw [if_neg (by rw [show IntKind.i64.wrap (0 + 1) = 1 from rfl]; simp), if_pos (by simp)]
 have := col_mono (wx := w.c0) htb (Int.le_of_lt h.h12) (Int.le_of_lt h.h43) m1 m2
 exact congrArg some (ms2 _ _ this)
theorem cross_out (n : Nat) (hn : 10 ≤ n) {x1 x2 x3 x4 t b : Int} (h : Tr x1 x2 x3 x4 t b) (w : S9) (sw : SmW w) (y : Int) (hy : 0 ≤ y ∧ y ≤ 10000) (hm : ¬ (2 * t ≤ midY w y ∧ midY w y < 2 * b)) :
  g69 n ⟨[trap x1 x2 x3 x4 t b]⟩ w y = some [] := by
 obtain ⟨k, rfl⟩ : ∃ k, n = k + 6 := ⟨n - 6, by omega⟩
 have hl : (trap x1 x2 x3 x4 t b).length = 4 := rfl
 have sA : Sm ⟨x1, t⟩ := by have := h.b1; have := h.bt; unfold Sm; simp only; omega
 have sB : Sm ⟨x2, t⟩ := by have := h.b2; have := h.bt; unfold Sm; simp only; omega
 have sC : Sm ⟨x3, b⟩ := by have := h.b3; have := h.bb; unfold Sm; simp only; omega
 have sD : Sm ⟨x4, b⟩ := by have := h.b4; have := h.bb; unfold Sm; simp only; omega
 have htb := h.htb
 have f1 : (2 * t ≤ midY w y) = (2 * b ≤ midY w y) := propext (by omega)
 have f2 := f1.symm
 unfold g69 l69_0
 have r0 : rd [trap x1 x2 x3 x4 t b] 0 = trap x1 x2 x3 x4 t b := rfl
 rw [if_pos (by simp), if_pos (by simp)]
 have E0 := edge_round (k + 6) (l69_0 (k + 6) ⟨[trap x1 x2 x3 x4 t b]⟩ w y (k + 5)) (trap x1 x2 x3 x4 t b) w y (k + 5) 0 [] ⟨x1, t⟩ ⟨x2, t⟩ rfl (by rw [hl]; omega) (by rw [hl]; omega) rfl sA sB sw hy (by simp)
 have E1 := edge_round (k + 6) (l69_0 (k + 6) ⟨[trap x1 x2 x3 x4 t b]⟩ w y (k + 5)) (trap x1 x2 x3 x4 t b) w y (k + 4) 1 [] ⟨x2, t⟩ ⟨x3, b⟩ rfl (by rw [hl]; omega) (by rw [hl]; omega) rfl sB sC sw hy (by simp)
 have E2 := edge_round (k + 6) (l69_0 (k + 6) ⟨[trap x1 x2 x3 x4 t b]⟩ w y (k + 5)) (trap x1 x2 x3 x4 t b) w y (k + 3) 2 [] ⟨x3, b⟩ ⟨x4, b⟩ rfl (by rw [hl]; omega) (by rw [hl]; omega) rfl sC sD sw hy (by simp)
 have E3 := edge_round (k + 6) (l69_0 (k + 6) ⟨[trap x1 x2 x3 x4 t b]⟩ w y (k + 5)) (trap x1 x2 x3 x4 t b) w y (k + 2) 3 [] ⟨x4, b⟩ ⟨x1, t⟩ rfl (by rw [hl]; omega) (by rw [hl]; omega) (by rw [hl]; rfl) sD sA sw hy (by simp)
 rw [if_pos rfl] at E0
 rw [if_pos f1] at E1
 rw [if_pos rfl] at E2
 rw [if_pos f2] at E3
 refine E0.trans (E1.trans (E2.trans (E3.trans ?_)))
 unfold l69_1
 rw [if_neg (by rw [r0, hl]; simp)]
 unfold l69_0
 rw [if_neg (by rw [show IntKind.i64.wrap (0 + 1) = 1 from rfl]; simp), if_pos (by simp)]
 simp
def clp (W x : Int) : Int := if W < (if 0 > x then 0 else x) then W else (if 0 > x then 0 else x)
theorem clp_id {W x : Int} (h0 : 0 ≤ x) (h1 : x ≤ W) : clp W x = x := by unfold clp; rw [if_neg (show ¬ (0 > x) by omega), if_neg (by omega)]
theorem l29_rows (n : Nat) (hn : 10 ≤ n) (p : List (List S0)) (w : S9) (W HH : Nat) (hW : w.c2 = (W : Int)) (hH : w.c3 = (HH : Int)) (w4 : W ≤ 4096) (h4 : HH ≤ 4096) (P : Int → Int → Prop)
  (hg : ∀ y : Nat, y < HH → (g69 n ⟨p⟩ w (y : Int) = some [] ∧ ∀ X, ¬ P (y : Int) X) ∨ ∃ a b, g69 n ⟨p⟩ w (y : Int) = some [a, b] ∧ 0 ≤ a ∧ a ≤ b ∧ b ≤ (W : Int) ∧ ∀ X, P (y : Int) X ↔ a ≤ X ∧ X < b) :
  ∀ (k i : Nat) (acc : List S1), HH - i < k → i ≤ HH → Can acc → (∀ r, r ∈ acc → r.c0 < (i : Int)) → acc.length ≤ i → (∀ Y X, Px acc Y X ↔ 0 ≤ Y ∧ Y < (i : Int) ∧ P Y X) →
  ∃ r, l29_0 n ⟨p⟩ w k (i : Int) acc = some (⟨(W : Int), (HH : Int), r⟩, 0) ∧ Can r ∧ ∀ Y X, Px r Y X ↔ 0 ≤ Y ∧ Y < (HH : Int) ∧ P Y X
 | 0, _, _, h, _, _, _, _, _ => by omega
 | k + 1, i, acc, hk, hi, hc, hr, hlen, hp => by
  unfold l29_0
  by_cases c : i < HH
  ·have w1 : IntKind.i64.wrap ((i : Int) + 1) = ((i + 1 : Nat) : Int) := by rw [wrap_i64] <;> omega
   obtain ⟨j, rfl⟩ : ∃ j, n = j + 2 := ⟨n - 2, by omega⟩
   rw [if_pos (by omega)]
   rcases hg i c with ⟨e, hP⟩ | ⟨a, b, e, a0, ab, bW, hP⟩
   ·rw [show g69 (j + 2) (⟨p⟩ : S16) (⟨w.c0, w.c1, w.c2, w.c3⟩ : S9) (i : Int) = some [] from e, Option.bind_some]
    unfold l29_1
    rw [if_neg (by simp), w1]
    refine l29_rows (j + 2) hn p w W HH hW hH w4 h4 P hg k (i + 1) acc (by omega) (by omega) hc (fun r q => by have := hr r q; omega) (by omega) (fun Y X => ?_)
    rw [hp]
    constructor
    ·rintro ⟨q1, q2, q3⟩; exact ⟨q1, by omega, q3⟩
    ·rintro ⟨q1, q2, q3⟩
     refine ⟨q1, ?_, q3⟩
     by_cases d : Y = (i : Int)
     ·subst d; exact absurd q3 (hP X)
     ·omega
   ·rw [show g69 (j + 2) (⟨p⟩ : S16) (⟨w.c0, w.c1, w.c2, w.c3⟩ : S9) (i : Int) = some [a, b] from e, Option.bind_some]
    unfold l29_1
    have wz : IntKind.i64.wrap (1 - 1) = 0 := rfl
    have ra : rd [a, b] 0 = a := rfl
    have rb : rd [a, b] 1 = b := rfl
    simp only [wz, ra, rb]
    rw [if_pos (by simp), if_pos (by simp), if_pos (by simp)]
    refine (span_code (fun acc => l29_1 (j + 2) (l29_0 (j + 2) ⟨p⟩ w k) w (i : Int) [a, b] (j + 1) (IntKind.i64.wrap (1 + 2)) acc) acc (i : Int) (clp w.c2 a) (clp w.c2 b) (by omega)) ▸ ?_
    rw [hW, clp_id a0 (by omega), clp_id (by omega) bW]
    obtain ⟨s1, s2, s3, s4⟩ := span_ok acc (i : Int) a b hc (fun r q => .inl (hr r q))
    unfold l29_1
    rw [if_neg (show ¬ (IntKind.i64.wrap (1 + 2) < (([a, b] : List Int).length : Int)) from (show ¬ ((3 : Int) < 2) by decide)), w1]
    refine l29_rows (j + 2) hn p w W HH hW hH w4 h4 P hg k (i + 1) _ (by omega) (by omega) s1 (fun r q => by have := s2 r q; omega) (by omega) (fun Y X => ?_)
    rw [s3, hp]
    constructor
    ·rintro (⟨q1, q2, q3⟩ | ⟨rfl, q2, q3⟩)
     ·exact ⟨q1, by omega, q3⟩
     ·exact ⟨by omega, by omega, (hP X).2 ⟨q2, q3⟩⟩
    ·rintro ⟨q1, q2, q3⟩
     by_cases d : Y = (i : Int)
     ·subst d; exact .inr ⟨rfl, (hP X).1 q3⟩
     ·exact .inl ⟨q1, by omega, q3⟩
  ·obtain rfl : i = HH := by omega
   rw [if_neg (by omega), hW, hH]
   exact ⟨acc, rfl, hc, hp⟩
end Go.Av
end
