/- the plain law, part 1 -/
import Derived.Test.YtjmhdecofadfnaaGreatW1
import Derived.Test.YtjmhdecofadfnaaGreatW2
import Derived.Test.YtjmhdecofadfnaaGreatW3
import Derived.Test.YtjmhdecofadfnaaGreatW4
import Derived.Test.YtjmhdecofadfnaaGreatW5
import Derived.Test.YtjmhdecofadfnaaGreatW6
import Derived.Test.YtjmhdecofadfnaaGreatW7
import Derived.Test.YtjmhdecofadfnaaGreatW8
import Derived.Test.YtjmhdecofadfnaaGreatW9
set_option autoImplicit false
set_option linter.unusedSimpArgs false
set_option linter.unusedVariables false
set_option linter.unnecessarySimpa false
section
namespace Go.Av
def isI64 (n : Int) : Prop := -9223372036854775808 ≤ n ∧ n < 9223372036854775808
def isU64 (n : Int) : Prop := 0 ≤ n ∧ n < 18446744073709551616
theorem rd_nat {α : Type} [Inhabited α] (l : List α) (i : Nat) (h : i < l.length) : rd l (i : Int) = l[i] := by
 unfold rd; rw [Int.toNat_natCast, List.getD_eq_getElem?_getD, List.getElem?_eq_getElem h, Option.getD_some]
theorem mem_rd {α : Type} [Inhabited α] (a : List α) (i : Nat) (h : i < a.length) : rd a (i : Int) ∈ a := by
 rw [rd_nat a i h]; exact List.getElem_mem _
theorem wsucc (i : Nat) (h : i < 4611686018427387904) : IntKind.i64.wrap ((i : Int) + 1) = ((i + 1 : Nat) : Int) := by
 rw [wrap_i64 (by omega) (by omega)]; omega
theorem wpred (i : Nat) (h : i < 4611686018427387904) (h1 : 1 ≤ i) : IntKind.i64.wrap ((i : Int) - 1) = ((i - 1 : Nat) : Int) := by
 rw [wrap_i64 (by omega) (by omega)]; omega
theorem l16_17 (n : Nat) (m : S5) (hl : m.c2.length ≤ 1000000000) : ∀ (k i : Nat) (x7 x8 x9 : Int), m.c2.length - i < k → i ≤ m.c2.length → (i = 0 → x7 = -1) → (0 < i → x7 = (rd m.c2 ((i - 1 : Nat) : Int)).c0 ∧ x9 = (rd m.c2 ((i - 1 : Nat) : Int)).c2) →
  ∃ v, l16_0 n m k (i : Int) x7 x8 x9 = some v ∧ l17_0 n m k (i : Int) = some v
 | 0, _, _, _, _, h, _, _, _ => by omega
 | k + 1, i, x7, x8, x9, hk, hi, hz, hp => by
  have E1 : ∃ v, (some 1 : Option Int) = some v ∧ (some 1 : Option Int) = some v := ⟨1, rfl, rfl⟩
  unfold l16_0 l17_0
  by_cases c : i < m.c2.length
  ·have IH := l16_17 n m hl k (i + 1) (rd m.c2 (i : Int)).c0 (rd m.c2 (i : Int)).c1 (rd m.c2 (i : Int)).c2 (by omega) (by omega) (by omega) (fun _ => ⟨rfl, rfl⟩)
   have c1 : (i : Int) < (m.c2.length : Int) := by omega
   have c0 : (0 : Int) ≤ (i : Int) := by omega
   rw [if_pos c1, if_pos c1, if_pos (And.intro c0 c1), if_pos (And.intro c0 c1), wsucc i (by omega)]
   by_cases q1 : (rd m.c2 (i : Int)).c0 < 0
   ·rw [if_pos q1, if_pos q1]; exact E1
   rw [if_neg q1, if_neg q1]
   by_cases q2 : m.c1 ≤ (rd m.c2 (i : Int)).c0
   ·rw [if_pos q2, if_pos q2]; exact E1
   rw [if_neg q2, if_neg q2]
   by_cases q3 : (rd m.c2 (i : Int)).c1 < 0
   ·rw [if_pos q3, if_pos q3]; exact E1
   rw [if_neg q3, if_neg q3]
   by_cases q4 : (rd m.c2 (i : Int)).c2 ≤ (rd m.c2 (i : Int)).c1
   ·rw [if_pos q4, if_pos q4]; exact E1
   rw [if_neg q4, if_neg q4]
   by_cases q5 : m.c0 < (rd m.c2 (i : Int)).c2
   ·rw [if_pos q5, if_pos q5]; exact E1
   rw [if_neg q5, if_neg q5]
   by_cases z : 0 < i
   ·obtain ⟨rfl, rfl⟩ := hp z
    rw [if_pos (show (0 : Int) < (i : Int) by omega), wpred i (by omega) (by omega)]
    have hc : (0 : Int) ≤ ((i - 1 : Nat) : Int) ∧ ((i - 1 : Nat) : Int) < (m.c2.length : Int) := by omega
    simp only [hc, and_self, if_true]
    by_cases q6 : (rd m.c2 (i : Int)).c0 < (rd m.c2 ((i - 1 : Nat) : Int)).c0
    ·rw [if_pos q6, if_pos q6]; exact E1
    rw [if_neg q6, if_neg q6]
    by_cases q7 : (rd m.c2 (i : Int)).c0 = (rd m.c2 ((i - 1 : Nat) : Int)).c0
    ·rw [if_pos q7, if_pos q7.symm]
     by_cases q8 : (rd m.c2 (i : Int)).c1 ≤ (rd m.c2 ((i - 1 : Nat) : Int)).c2
     ·rw [if_pos q8, if_pos q8]; exact E1
     ·rw [if_neg q8, if_neg q8]; exact IH
    ·rw [if_neg q7, if_neg (fun h => q7 h.symm)]; exact IH
   ·have := hz (by omega)
    subst this
    rw [if_neg (by omega), if_neg (by omega), if_neg (by omega)]; exact IH
  ·rw [if_neg (by omega), if_neg (by omega)]
   exact ⟨0, rfl, rfl⟩
theorem etaS5 (s : S5) : (⟨s.c0, s.c1, s.c2⟩ : S5) = s := rfl
theorem etaS1 (s : S1) : (⟨s.c0, s.c1, s.c2⟩ : S1) = s := rfl
theorem l58_23 (n : Nat) (a b : S5) (hl : a.c2.length ≤ 3200) (hab : a.c2.length = b.c2.length) : ∀ (k i : Nat), a.c2.length - i < k → i ≤ a.c2.length → ∃ v, l58_0_0 n a.c2 b.c2 k (i : Int) = some v ∧ l23_0 n a b k (i : Int) = some v
 | 0, _, h, _ => by omega
 | k + 1, i, hk, hi => by
  unfold l58_0_0 l23_0
  by_cases c : i < a.c2.length
  ·rw [if_pos (by omega), if_pos (by omega), if_pos (by omega), if_pos (by omega), if_pos (by omega), if_pos (by omega), wsucc i (by omega)]
   unfold g59
   simp only [Option.bind_some, decide_eq_true_eq]
   split
   ·exact l58_23 n a b hl hab k (i + 1) (by omega) (by omega)
   ·exact ⟨false, rfl, rfl⟩
  ·rw [if_neg (by omega), if_neg (by omega)]; exact ⟨true, rfl, rfl⟩
theorem equal_ok (n : Nat) (hn : 4000 ≤ n) (a b : S5) (hl : a.c2.length ≤ 3200) : ∃ v, g22 n a b = some v ∧ g23 n a b = some v := by
 unfold g22 g23 g58_0
 by_cases q1 : a.c0 = b.c0
 ·rw [if_pos q1, if_pos q1]
  by_cases q2 : a.c1 = b.c1
  ·rw [if_pos q2, if_pos q2]
   by_cases q3 : (a.c2.length : Int) = (b.c2.length : Int)
   ·rw [if_pos q3, if_pos q3]
    obtain ⟨v, h1, h2⟩ := l58_23 n a b hl (by omega) n 0 (by omega) (by omega)
    rw [show (0 : Int) = ((0 : Nat) : Int) from rfl, h1, h2]
    exact ⟨v, rfl, rfl⟩
   ·rw [if_neg q3, if_neg q3]; exact ⟨false, rfl, rfl⟩
  ·rw [if_neg q2, if_neg q2]; exact ⟨false, rfl, rfl⟩
 ·rw [if_neg q1, if_neg q1]; exact ⟨false, rfl, rfl⟩
section
variable (n : Nat) (hn : 4000 ≤ n) (a5 a6 : Int) (p q r : S5) (hL : ∀ m, m ∈ [p, q, r] → m.c2.length ≤ 3200)
include hn hL
end
end Go.Av
end
