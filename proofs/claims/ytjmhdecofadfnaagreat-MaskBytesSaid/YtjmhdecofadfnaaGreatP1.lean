/- the plain law, part 1 -/
import Derived.Test.YtjmhdecofadfnaaGreatW1
import Derived.Test.YtjmhdecofadfnaaGreatW2
import Derived.Test.YtjmhdecofadfnaaGreatW3
set_option autoImplicit false
set_option linter.unusedSimpArgs false
set_option linter.unusedVariables false
set_option linter.unnecessarySimpa false
section
namespace Go.Av
def isI64 (n : Int) : Prop := -9223372036854775808 ≤ n ∧ n < 9223372036854775808
def isU64 (n : Int) : Prop := 0 ≤ n ∧ n < 18446744073709551616
theorem rd_nat {α : Type} [Inhabited α] (l : List α) (i : Nat) (h : i < l.length) : rd l (i : Int) = l[i] := by
 unfold rd; rw [Int.toNat_natCast, List.getD_eq_getElem?_getD, List.getElem?_eq_getElem h, Option.getD_some]
theorem mem_rd {α : Type} [Inhabited α] (a : List α) (i : Nat) (h : i < a.length) : rd a (i : Int) ∈ a := by
 rw [rd_nat a i h]; exact List.getElem_mem _
theorem wsucc (i : Nat) (h : i < 4611686018427387904) : IntKind.i64.wrap ((i : Int) + 1) = ((i + 1 : Nat) : Int) := by
 rw [wrap_i64 (by omega) (by omega)]; omega
theorem wpred (i : Nat) (h : i < 4611686018427387904) (h1 : 1 ≤ i) : IntKind.i64.wrap ((i : Int) - 1) = ((i - 1 : Nat) : Int) := by
 rw [wrap_i64 (by omega) (by omega)]; omega
theorem number1 (n : Nat) (a m : Int) (hm : 0 < m) (hm2 : m < 4611686018427387904) : ∃ v, g54 n ([a] : List Int) 0 m = some v ∧ 0 ≤ v ∧ v < m := by
 have r0 : rd ([a] : List Int) 0 = a := rfl
 have h1 : Int.tmod a m < m := Int.tmod_lt_of_pos _ hm
 have h2 : -m < Int.tmod a m := by
  by_cases h : 0 ≤ a
  ·have := Int.tmod_nonneg m h; omega
  ·have e : Int.tmod a m = -(Int.tmod (-a) m) := by rw [Int.neg_tmod, Int.neg_neg]
   have := Int.tmod_lt_of_pos (-a) hm
   omega
 unfold g54
 rw [if_neg (by omega), if_neg (by simp), if_pos (by simp), if_pos (by omega), r0]
 by_cases c : Int.tmod a m < 0
 ·rw [if_pos c, wrap_i64 (by omega) (by omega)]; exact ⟨_, rfl, by omega, by omega⟩
 ·rw [if_neg c]; exact ⟨_, rfl, by omega, by omega⟩
/-- the runs of a set, row by row -/
theorem l53_1_ok (n : Nat) (R : Int → List S1 → Option S5) (a0 : S3) (W y p M : Nat) (hW : a0.c0 = (W : Int)) (hp : y * W = p) (hB : p + W ≤ a0.c2.length) (hM : p + W ≤ 1000) (hy : y ≤ 1000)
  (hR : ∀ runs : List S1, runs.length ≤ p + W → ∃ m, R ((y + 1 : Nat) : Int) runs = some m ∧ m.c2.length ≤ M) : ∀ (k x : Nat) (runs : List S1), W - x < k → x ≤ W → runs.length ≤ p + x → (0 < x → rd a0.c2 ((p + x - 1 : Nat) : Int) = true → runs ≠ []) → ∃ m, l53_1 n R a0 (y : Int) k (x : Int) runs = some m ∧ m.c2.length ≤ M
 | 0, _, _, h, _, _, _ => by omega
 | k + 1, x, runs, hk, hx, hr, hq => by
  have hyw : (y : Int) * (W : Int) = (p : Int) := by rw [← Int.natCast_mul, hp]
  have e0 : IntKind.i64.wrap ((y : Int) * a0.c0) = (p : Int) := by rw [hW, hyw, wrap_i64 (by omega) (by omega)]
  unfold l53_1
  rw [hW]
  by_cases c : x < W
  ·have IH := fun (r : List S1) (h1 : r.length ≤ p + (x + 1)) (h2 : rd a0.c2 ((p + x : Nat) : Int) = true → r ≠ []) => l53_1_ok n R a0 W y p M hW hp hB hM hy hR k (x + 1) r (by omega) (by omega) h1 (fun _ => h2)
   have e1 : IntKind.i64.wrap ((p : Int) + (x : Int)) = ((p + x : Nat) : Int) := by
    rw [wrap_i64 (by omega) (by omega)]; omega
   rw [hW] at e0
   rw [if_pos (by omega), e0, e1, if_pos (by omega), wsucc x (by omega)]
   by_cases b : rd a0.c2 ((p + x : Nat) : Int) = true
   ·rw [if_pos b]
    by_cases z : 0 < x
    ·rw [if_pos (by omega), wpred (p + x) (by omega) (by omega), if_pos (by omega)]
     by_cases b2 : rd a0.c2 ((p + x - 1 : Nat) : Int) = true
     ·have hne := hq z b2
      have hl : 1 ≤ runs.length := by
       cases runs with
       | nil => exact absurd rfl hne
       | cons => simp
      rw [if_pos b2, wpred runs.length (by omega) hl, if_pos (by omega), Int.toNat_natCast, if_pos (by omega)]
      refine IH _ (by simp; omega) (fun _ h => ?_)
      have := congrArg List.length h
      rw [List.length_set, List.length_nil] at this
      omega
     ·rw [if_neg b2, if_pos (by omega)]
      exact IH _ (by simp; omega) (fun _ => by simp)
    ·rw [if_neg (by omega), if_pos (by omega)]
     exact IH _ (by simp; omega) (fun _ => by simp)
   ·rw [if_neg b]
    exact IH _ (by omega) (fun h => absurd h b)
  ·rw [if_neg (by omega), wsucc y (by omega)]
   exact hR runs (by omega)
theorem l53_0_ok (n : Nat) (hn : 4000 ≤ n) (a0 : S3) (W H : Nat) (hW : a0.c0 = (W : Int)) (hH : a0.c1 = (H : Int)) (hB : a0.c2.length = H * W) (h1 : W ≤ 10) (h2 : H ≤ 10) : ∀ (k y : Nat) (runs : List S1), H - y < k → y ≤ H → runs.length ≤ y * W → ∃ m, l53_0 n a0 k (y : Int) runs = some m ∧ m.c2.length ≤ 100
 | 0, _, _, h, _, _ => by omega
 | k + 1, y, runs, hk, hy, hr => by
  have hyw : y * W ≤ 10 * 10 := Nat.mul_le_mul (by omega) h1
  unfold l53_0
  rw [hH]
  by_cases c : y < H
  ·have hs : y * W + W ≤ H * W := by
    have := Nat.mul_le_mul_right W (show y + 1 ≤ H by omega)
    rwa [Nat.succ_mul] at this
   have hw : H * W ≤ 10 * 10 := Nat.mul_le_mul h2 h1
   rw [if_pos (by omega)]
   refine l53_1_ok n (l53_0 n a0 k) a0 W y (y * W) 100 hW rfl (by omega) (by omega) (by omega) (fun r h => ?_) n 0 runs (by omega) (by omega) (by omega) (by omega)
   exact l53_0_ok n hn a0 W H hW hH hB h1 h2 k (y + 1) r (by omega) (by omega) (by rw [Nat.succ_mul]; exact h)
  ·rw [if_neg (by omega)]
   exact ⟨_, rfl, by simp only []; omega⟩
theorem g53_ok (n : Nat) (hn : 4000 ≤ n) (a0 : S3) (W H : Nat) (hW : a0.c0 = (W : Int)) (hH : a0.c1 = (H : Int)) (hB : a0.c2.length = H * W) (h1 : W ≤ 10) (h2 : H ≤ 10) : ∃ m, g53 n a0 = some m ∧ m.c2.length ≤ 100 :=
 l53_0_ok n hn a0 W H hW hH hB h1 h2 n 0 [] (by omega) (by omega) (by simp)
theorem l12_ok (n : Nat) (hn : 4000 ≤ n) (W H : Nat) (a2 : List Int) (h1 : W ≤ 10) (h2 : H ≤ 10) : ∀ (k i : Nat) (B : List Bool), B.length = H * W → B.length - i < k → i ≤ B.length → ∃ m, l12_0 n (W : Int) (H : Int) a2 k (i : Int) B = some m ∧ m.c2.length ≤ 100
 | 0, _, _, _, h, _ => by omega
 | k + 1, i, B, hB, hk, hi => by
  have hw : H * W ≤ 10 * 10 := Nat.mul_le_mul h2 h1
  have G : ∃ m, ((g53 n (⟨(W : Int), (H : Int), B⟩ : S3)).bind fun v => some (⟨v.c0, v.c1, v.c2⟩ : S5)) = some m ∧ m.c2.length ≤ 100 := by
   obtain ⟨m, e, hm⟩ := g53_ok n hn ⟨W, H, B⟩ W H rfl rfl hB h1 h2
   rw [e]; exact ⟨_, rfl, hm⟩
  unfold l12_0
  by_cases c : i < B.length
  ·by_cases z : 0 < (a2.length : Int)
   ·have t0 := Int.tmod_nonneg (a2.length : Int) (show (0 : Int) ≤ (i : Int) by omega)
    have t1 := Int.tmod_lt_of_pos (i : Int) z
    have IH := fun (B' : List Bool) (h : B'.length = B.length) => l12_ok n hn W H a2 h1 h2 k (i + 1) B' (by omega) (by omega) (by omega)
    have hc : (0 : Int) ≤ (i : Int) ∧ (i : Int) < (B.length : Int) := by omega
    rw [if_pos (by omega), if_pos z, if_pos (by omega), if_pos ⟨t0, t1⟩, if_pos (by omega)]
    simp only [hc, Int.toNat_natCast, c, and_self, if_true, wsucc i (by omega)]
    repeat' split
    all_goals exact IH _ (by simp)
   ·rw [if_pos (by omega), if_neg z]; exact G
  ·rw [if_neg (by omega)]; exact G
theorem g12_ok (n : Nat) (hn : 4000 ≤ n) (w h : Int) (a2 : List Int) (w0 : 0 ≤ w ∧ w < 11) (h0 : 0 ≤ h ∧ h < 11) : ∃ m, g12 n w h a2 = some m ∧ m.c2.length ≤ 100 := by
 obtain ⟨W, rfl⟩ : ∃ W : Nat, w = (W : Int) := ⟨w.toNat, by omega⟩
 obtain ⟨H, rfl⟩ : ∃ H : Nat, h = (H : Int) := ⟨h.toNat, by omega⟩
 have hw : W * H ≤ 10 * 10 := Nat.mul_le_mul (by omega) (by omega)
 have e : IntKind.i64.wrap ((W : Int) * (H : Int)) = ((W * H : Nat) : Int) := by rw [← Int.natCast_mul, wrap_i64 (by omega) (by omega)]
 unfold g12
 rw [e, if_pos (by omega), Int.toNat_natCast]
 exact l12_ok n hn W H a2 (by omega) (by omega) n 0 _ (by rw [List.length_replicate, Nat.mul_comm]) (by simp; omega) (by omega)
theorem g14_ok (n : Nat) (m : S5) (at_ v : Int) (hl : m.c2.length ≤ 100) : ∃ r, g14 n m at_ v = some r ∧ r.c2.length ≤ 101 := by
 obtain ⟨k, e, k0, k1⟩ := number1 n at_ 7 (by omega) (by omega)
 unfold g14
 rw [if_pos (by omega), e]
 simp only [Option.bind_some]
 by_cases c : k < 2
 ·rw [if_pos c]
  split <;> exact ⟨_, rfl, by simp only []; omega⟩
 ·rw [if_neg c]
  by_cases z : (m.c2.length : Int) = 0
  ·rw [if_pos z]
   split <;> exact ⟨_, rfl, by simp only []; omega⟩
  ·obtain ⟨j, e', j0, j1⟩ := number1 n (IntKind.i64.wrap (Int.tdiv at_ 7)) (m.c2.length : Int) (by omega) (by omega)
   have hj : (0 : Int) ≤ j ∧ j < (m.c2.length : Int) := ⟨j0, j1⟩
   have hj' : Int.toNat j < m.c2.length := by omega
   have hl' : m.c2.length + 1 ≤ 5864062014805 := by omega
   rw [if_neg z, e']
   simp only [Option.bind_some, hj, hj', hl', and_self, if_true]
   repeat' split
   all_goals exact ⟨_, rfl, by simp; omega⟩
theorem l16_17 (n : Nat) (m : S5) (hl : m.c2.length ≤ 3200) : ∀ (k i : Nat) (x7 x8 x9 : Int), m.c2.length - i < k → i ≤ m.c2.length → (i = 0 → x7 = -1) → (0 < i → x7 = (rd m.c2 ((i - 1 : Nat) : Int)).c0 ∧ x9 = (rd m.c2 ((i - 1 : Nat) : Int)).c2) →
  ∃ v, l16_0 n m k (i : Int) x7 x8 x9 = some v ∧ l17_0 n m k (i : Int) = some v
 | 0, _, _, _, _, h, _, _, _ => by omega
 | k + 1, i, x7, x8, x9, hk, hi, hz, hp => by
  have E1 : ∃ v, (some 1 : Option Int) = some v ∧ (some 1 : Option Int) = some v := ⟨1, rfl, rfl⟩
  unfold l16_0 l17_0
  by_cases c : i < m.c2.length
  ·have IH := l16_17 n m hl k (i + 1) (rd m.c2 (i : Int)).c0 (rd m.c2 (i : Int)).c1 (rd m.c2 (i : Int)).c2 (by omega) (by omega) (by omega) (fun _ => ⟨rfl, rfl⟩)
   have c1 : (i : Int) < (m.c2.length : Int) := by omega
   have c0 : (0 : Int) ≤ (i : Int) := by omega
   rw [if_pos c1, if_pos c1, if_pos (And.intro c0 c1), if_pos (And.intro c0 c1), wsucc i (by omega)]
   by_cases q1 : (rd m.c2 (i : Int)).c0 < 0
   ·rw [if_pos q1, if_pos q1]; exact E1
   rw [if_neg q1, if_neg q1]
   by_cases q2 : m.c1 ≤ (rd m.c2 (i : Int)).c0
   ·rw [if_pos q2, if_pos q2]; exact E1
   rw [if_neg q2, if_neg q2]
   by_cases q3 : (rd m.c2 (i : Int)).c1 < 0
   ·rw [if_pos q3, if_pos q3]; exact E1
   rw [if_neg q3, if_neg q3]
   by_cases q4 : (rd m.c2 (i : Int)).c2 ≤ (rd m.c2 (i : Int)).c1
   ·rw [if_pos q4, if_pos q4]; exact E1
   rw [if_neg q4, if_neg q4]
   by_cases q5 : m.c0 < (rd m.c2 (i : Int)).c2
   ·rw [if_pos q5, if_pos q5]; exact E1
   rw [if_neg q5, if_neg q5]
   by_cases z : 0 < i
   ·obtain ⟨rfl, rfl⟩ := hp z
    rw [if_pos (show (0 : Int) < (i : Int) by omega), wpred i (by omega) (by omega)]
    have hc : (0 : Int) ≤ ((i - 1 : Nat) : Int) ∧ ((i - 1 : Nat) : Int) < (m.c2.length : Int) := by omega
    simp only [hc, and_self, if_true]
    by_cases q6 : (rd m.c2 (i : Int)).c0 < (rd m.c2 ((i - 1 : Nat) : Int)).c0
    ·rw [if_pos q6, if_pos q6]; exact E1
    rw [if_neg q6, if_neg q6]
    by_cases q7 : (rd m.c2 (i : Int)).c0 = (rd m.c2 ((i - 1 : Nat) : Int)).c0
    ·rw [if_pos q7, if_pos q7.symm]
     by_cases q8 : (rd m.c2 (i : Int)).c1 ≤ (rd m.c2 ((i - 1 : Nat) : Int)).c2
     ·rw [if_pos q8, if_pos q8]; exact E1
     ·rw [if_neg q8, if_neg q8]; exact IH
    ·rw [if_neg q7, if_neg (fun h => q7 h.symm)]; exact IH
   ·have := hz (by omega)
    subst this
    rw [if_neg (by omega), if_neg (by omega), if_neg (by omega)]; exact IH
  ·rw [if_neg (by omega), if_neg (by omega)]
   exact ⟨0, rfl, rfl⟩
theorem valid_ok (n : Nat) (hn : 4000 ≤ n) (m : S5) (hl : m.c2.length ≤ 3200) : ∃ v, g16 n m = some v ∧ g17 n m = some v := by
 obtain ⟨v, h1, h2⟩ := l16_17 n m hl n 0 (-1) 0 0 (by omega) (by omega) (fun _ => rfl) (by omega)
 have e : g46 n m.c0 m.c1 = g55 n m.c0 m.c1 := rfl
 unfold g16 g17
 rw [e]
 have t : ∃ b, g55 n m.c0 m.c1 = some b := by
  unfold g55
  repeat' split
  all_goals exact ⟨_, rfl⟩
 obtain ⟨b, hb⟩ := t
 rw [hb]
 simp only [Option.bind_some]
 by_cases c : b = true
 ·rw [if_pos c, if_pos c]; exact ⟨v, h1, h2⟩
 ·rw [if_neg c, if_neg c]; exact ⟨1, rfl, rfl⟩
theorem etaS5 (s : S5) : (⟨s.c0, s.c1, s.c2⟩ : S5) = s := rfl
section
variable (n : Nat) (hn : 4000 ≤ n) (a5 a6 : Int) (p q r : S5) (hL : ∀ m, m ∈ [p, q, r] → m.c2.length ≤ 3200)
include hn hL
end
end Go.Av
end
