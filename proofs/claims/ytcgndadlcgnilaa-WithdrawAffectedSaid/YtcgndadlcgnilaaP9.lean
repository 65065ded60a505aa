/- the plain law, part 9 -/
import Derived.Test.YtcgndadlcgnilaaP8
set_option autoImplicit false
set_option linter.unusedSimpArgs false
set_option linter.unusedVariables false
set_option linter.unnecessarySimpa false
section
namespace Go.Av
theorem tm3 (v m : Int) (h : 0 ≤ v) (hm : 0 < m) : 0 ≤ Int.tmod v m ∧ Int.tmod v m < m := ⟨Int.tmod_nonneg _ h, Int.tmod_lt_of_pos _ hm⟩
theorem l4_ok (n : Nat) (a : List Int) (v : Int) (ha : ∀ x, x ∈ a → isI64 x) : ∀ (k j : Nat), 4 - j < k → j ≤ 4 → ∀ (x y : List S2) (u : Int), x.length = j → y.length = j →
  ∃ p, l4_0 n a v k x y u ((2 * j : Nat) : Int) = some p ∧ p.1.length = p.2.length ∧ p.1.length ≤ 4
 | 0, _, h, _, _, _, _, _, _ => by omega
 | k + 1, j, hk, hj, x, y, u, hx, hy => by
  unfold l4_0
  have w1 : IntKind.i64.wrap (((2 * j : Nat) : Int) + 1) = ((2 * j + 1 : Nat) : Int) := wsucc _ (by omega)
  have w2 : IntKind.i64.wrap (((2 * j : Nat) : Int) + 2) = ((2 * (j + 1) : Nat) : Int) := by rw [wrap_i64 (by omega) (by omega)]; omega
  rw [w1, w2]
  by_cases c : ((2 * j + 1 : Nat) : Int) < (a.length : Int)
  ·by_cases c8 : ((2 * j : Nat) : Int) < 8
   ·obtain ⟨r, e, r0, r1⟩ := ar n (rd a ((2 * j : Nat) : Int)) 1000 (ha _ (mem_rd a _ (by omega))) (by omega)
    obtain ⟨q, e', q0, q1⟩ := ar n (rd a ((2 * j + 1 : Nat) : Int)) 60 (ha _ (mem_rd a _ (by omega))) (by omega)
    have hd : IntKind.i64.wrap (Int.tdiv r 3) = r / 3 := by rw [Int.tdiv_eq_ediv_of_nonneg r0, wrap_i64 (by omega) (by omega)]
    have ht := tm3 (r / 3) 2 (by omega) (by omega)
    rw [if_pos c, if_pos c8, if_pos (by omega), e]
    simp only [Option.bind_some]
    rw [hd, if_pos ht, if_pos (by omega), if_pos (by omega), e']
    simp only [Option.bind_some]
    have IH := l4_ok n a v ha k (j + 1) (by omega) (by omega)
    have lx : x.length + 1 ≤ 2199023255552 := by omega
    have ly : y.length + 1 ≤ 2199023255552 := by omega
    simp only [lx, ly, if_true]
    repeat' split
    all_goals exact IH _ _ _ (by simp [hx]) (by simp [hy])
   ·rw [if_pos c, if_neg c8]; exact ⟨_, rfl, by simp [hx, hy], by simp [hx]; omega⟩
  ·rw [if_neg c]; exact ⟨_, rfl, by simp [hx, hy], by simp [hx]; omega⟩
theorem g4_ok (n : Nat) (hn : 1000 ≤ n) (a : List Int) (v : Int) (ha : ∀ x, x ∈ a → isI64 x) : ∃ p, g4 n a v = some p ∧ p.1.length = p.2.length ∧ p.1.length ≤ 4 :=
 l4_ok n a v ha n 0 (by omega) (by omega) [] [] 0 rfl rfl
theorem l10_2_ok (n : Nat) (R : List S1 → Int → Option (List (List S1))) (x8 : List S1) (i : Nat) (v : Int) (hx : x8.length ≤ 4) (hi : i ≤ 4) (h0 : 0 ≤ v) (h1 : v < 1000) : ∀ (k j : Nat), 4 - j < k → j ≤ 4 → ∀ (w : List Int), w.length ≤ j → (∀ x, x ∈ w → isU64 x) →
  ∃ s, okP s ∧ l10_2 n R x8 (i : Int) v k (j : Int) w = R (x8 ++ [s]) ((i + 1 : Nat) : Int)
 | 0, _, h, _, _, _, _ => by omega
 | k + 1, j, hk, hj, w, hw, hu => by
  unfold l10_2
  have t4 := tm3 v 4 h0 (by omega)
  have t3 := tm3 v 3 h0 (by omega)
  by_cases c : (j : Int) < Int.tmod v 4
  ·rw [if_pos c, if_pos (by omega), wsucc j (by omega)]
   refine l10_2_ok n R x8 i v hx hi h0 h1 k (j + 1) (by omega) (by omega) _ (by simp; omega) fun x hx => ?_
   rcases List.mem_append.1 hx with hx | hx
   ·exact hu x hx
   ·rw [List.mem_singleton.1 hx]; exact wrap_u64_range _
  ·rw [if_neg c, if_pos (by omega), wsucc i (by omega)]
   refine ⟨_, ?_, rfl⟩
   exact ⟨⟨by show (0 : Int) ≤ 0; decide, by show (0 : Int) < _; decide⟩, ⟨t3.1, by have := t3.2; show Int.tmod v 3 < _; omega⟩, ⟨by show (0 : Int) ≤ (i : Int); omega, by show (i : Int) < _; omega⟩, wrap_u64_range _, ⟨by show w.length ≤ 12; omega, hu⟩, ⟨by simp, by simp⟩, wrap_u64_range _⟩
theorem l10_1_ok (n : Nat) (hn : 1000 ≤ n) (R : List (List S1) → Int → Option (List (List S1))) (a : List Int) (x1 : List (List S1)) (i : Nat) (ha : ∀ x, x ∈ a → isI64 x) (hx : x1.length ≤ 100) (hi : i ≤ 100) : ∀ (k j : Nat), 4 - j < k → j ≤ 4 → ∀ (q : List S1), q.length ≤ j → (∀ s, s ∈ q → okP s) →
  ∃ r, r.length ≤ 4 ∧ (∀ s, s ∈ r → okP s) ∧ l10_1 n R a x1 (i : Int) k q (j : Int) = R (x1 ++ [r]) ((i + 1 : Nat) : Int)
 | 0, _, h, _, _, _, _ => by omega
 | k + 1, j, hk, hj, q, hq, ho => by
  unfold l10_1
  obtain ⟨m, e, m0, m1⟩ := pickN n a (i : Int) 4 ha (by omega)
  rw [e]
  simp only [Option.bind_some]
  by_cases c : (j : Int) < m
  ·obtain ⟨v, e', v0, v1⟩ := pickN n a (IntKind.i64.wrap ((IntKind.i64.wrap ((i : Int) + (j : Int))) + 1)) 1000 ha (by omega)
   rw [if_pos c, e']
   simp only [Option.bind_some]
   obtain ⟨s, hs, e2⟩ := l10_2_ok n (l10_1 n R a x1 (i : Int) k) q j v (by omega) (by omega) v0 v1 n 0 (by omega) (by omega) [] (by simp) (by simp)
   rw [show ((0 : Nat) : Int) = 0 from rfl] at e2
   rw [e2]
   refine l10_1_ok n hn R a x1 i ha hx hi k (j + 1) (by omega) (by omega) _ (by simp; omega) fun s' h => ?_
   rcases List.mem_append.1 h with h | h
   ·exact ho _ h
   ·rw [List.mem_singleton.1 h]; exact hs
  ·rw [if_neg c, if_pos (by omega), wsucc i (by omega)]
   exact ⟨q, by omega, ho, rfl⟩
theorem l10_0_ok (n : Nat) (hn : 1000 ≤ n) (a : List Int) (m : Nat) (hm : m ≤ 20) (ha : ∀ x, x ∈ a → isI64 x) : ∀ (k i : Nat), m - i < k → i ≤ m → ∀ (x1 : List (List S1)), x1.length = i → (∀ p, p ∈ x1 → p.length ≤ 4 ∧ ∀ s, s ∈ p → okP s) →
  ∃ r, r.length = m ∧ (∀ p, p ∈ r → p.length ≤ 4 ∧ ∀ s, s ∈ p → okP s) ∧ l10_0 n a (m : Int) k x1 (i : Int) = some r
 | 0, _, h, _, _, _, _ => by omega
 | k + 1, i, hk, hi, x1, hx, ho => by
  unfold l10_0
  by_cases c : i < m
  ·rw [if_pos (by omega)]
   obtain ⟨r, h1, h2, e⟩ := l10_1_ok n hn (l10_0 n a (m : Int) k) a x1 i ha (by omega) (by omega) n 0 (by omega) (by omega) [] (by simp) (by simp)
   rw [show ((0 : Nat) : Int) = 0 from rfl] at e
   rw [e]
   refine l10_0_ok n hn a m hm ha k (i + 1) (by omega) (by omega) _ (by simp [hx]) fun p hp => ?_
   rcases List.mem_append.1 hp with h | h
   ·exact ho _ h
   ·rw [List.mem_singleton.1 h]; exact ⟨h1, h2⟩
  ·rw [if_neg (by omega)]
   exact ⟨x1, by omega, ho, rfl⟩
theorem g10_ok (n : Nat) (hn : 1000 ≤ n) (a : List Int) (m : Nat) (hm : m ≤ 20) (ha : ∀ x, x ∈ a → isI64 x) : ∃ r, r.length = m ∧ (∀ p, p ∈ r → p.length ≤ 4 ∧ ∀ s, s ∈ p → okP s) ∧ g10 n a (m : Int) = some r :=
 l10_0_ok n hn a m hm ha n 0 (by omega) (by omega) [] rfl (by simp)
theorem lives : g16 1000 = some true := by decide +kernel
end Go.Av
end
