/- the plain law, part 9 -/
import Derived.Test.YtcgndadlcgnilaaGreatP8
set_option autoImplicit false
set_option linter.unusedSimpArgs false
set_option linter.unusedVariables false
set_option linter.unnecessarySimpa false
section
namespace Go.Av
theorem tm3 (v m : Int) (h : 0 ≤ v) (hm : 0 < m) : 0 ≤ Int.tmod v m ∧ Int.tmod v m < m := ⟨Int.tmod_nonneg _ h, Int.tmod_lt_of_pos _ hm⟩
theorem l10_2_ok (n : Nat) (R : List S1 → Int → Option (List (List S1))) (x8 : List S1) (i : Nat) (v : Int) (hx : x8.length ≤ 4) (hi : i ≤ 4) (h0 : 0 ≤ v) (h1 : v < 1000) : ∀ (k j : Nat), 4 - j < k → j ≤ 4 → ∀ (w : List Int), w.length ≤ j → (∀ x, x ∈ w → isU64 x) →
  ∃ s, okP s ∧ l10_2 n R x8 (i : Int) v k (j : Int) w = R (x8 ++ [s]) ((i + 1 : Nat) : Int)
 | 0, _, h, _, _, _, _ => by omega
 | k + 1, j, hk, hj, w, hw, hu => by
  unfold l10_2
  have t4 := tm3 v 4 h0 (by omega)
  have t3 := tm3 v 3 h0 (by omega)
  by_cases c : (j : Int) < Int.tmod v 4
  ·rw [if_pos c, if_pos (by omega), wsucc j (by omega)]
   refine l10_2_ok n R x8 i v hx hi h0 h1 k (j + 1) (by omega) (by omega) _ (by simp; omega) fun x hx => ?_
   rcases List.mem_append.1 hx with hx | hx
   ·exact hu x hx
   ·rw [List.mem_singleton.1 hx]; exact wrap_u64_range _
  ·rw [if_neg c, if_pos (by omega), wsucc i (by omega)]
   refine ⟨_, ?_, rfl⟩
   exact ⟨⟨by show (0 : Int) ≤ 0; decide, by show (0 : Int) < _; decide⟩, ⟨t3.1, by have := t3.2; show Int.tmod v 3 < _; omega⟩, ⟨by show (0 : Int) ≤ (i : Int); omega, by show (i : Int) < _; omega⟩, wrap_u64_range _, ⟨by show w.length ≤ 12; omega, hu⟩, ⟨by simp, by simp⟩, wrap_u64_range _⟩
theorem l10_1_ok (n : Nat) (hn : 1000 ≤ n) (R : List (List S1) → Int → Option (List (List S1))) (a : List Int) (x1 : List (List S1)) (i : Nat) (ha : ∀ x, x ∈ a → isI64 x) (hx : x1.length ≤ 100) (hi : i ≤ 100) : ∀ (k j : Nat), 4 - j < k → j ≤ 4 → ∀ (q : List S1), q.length ≤ j → (∀ s, s ∈ q → okP s) →
  ∃ r, r.length ≤ 4 ∧ (∀ s, s ∈ r → okP s) ∧ l10_1 n R a x1 (i : Int) k q (j : Int) = R (x1 ++ [r]) ((i + 1 : Nat) : Int)
 | 0, _, h, _, _, _, _ => by omega
 | k + 1, j, hk, hj, q, hq, ho => by
  unfold l10_1
  obtain ⟨m, e, m0, m1⟩ := pickN n a (i : Int) 4 ha (by omega)
  rw [e]
  simp only [Option.bind_some]
  by_cases c : (j : Int) < m
  ·obtain ⟨v, e', v0, v1⟩ := pickN n a (IntKind.i64.wrap ((IntKind.i64.wrap ((i : Int) + (j : Int))) + 1)) 1000 ha (by omega)
   rw [if_pos c, e']
   simp only [Option.bind_some]
   obtain ⟨s, hs, e2⟩ := l10_2_ok n (l10_1 n R a x1 (i : Int) k) q j v (by omega) (by omega) v0 v1 n 0 (by omega) (by omega) [] (by simp) (by simp)
   rw [show ((0 : Nat) : Int) = 0 from rfl] at e2
   rw [e2]
   refine l10_1_ok n hn R a x1 i ha hx hi k (j + 1) (by omega) (by omega) _ (by simp; omega) fun s' h => ?_
   rcases List.mem_append.1 h with h | h
   ·exact ho _ h
   ·rw [List.mem_singleton.1 h]; exact hs
  ·rw [if_neg c, if_pos (by omega), wsucc i (by omega)]
   exact ⟨q, by omega, ho, rfl⟩
theorem l10_0_ok (n : Nat) (hn : 1000 ≤ n) (a : List Int) (m : Nat) (hm : m ≤ 20) (ha : ∀ x, x ∈ a → isI64 x) : ∀ (k i : Nat), m - i < k → i ≤ m → ∀ (x1 : List (List S1)), x1.length = i → (∀ p, p ∈ x1 → p.length ≤ 4 ∧ ∀ s, s ∈ p → okP s) →
  ∃ r, r.length = m ∧ (∀ p, p ∈ r → p.length ≤ 4 ∧ ∀ s, s ∈ p → okP s) ∧ l10_0 n a (m : Int) k x1 (i : Int) = some r
 | 0, _, h, _, _, _, _ => by omega
 | k + 1, i, hk, hi, x1, hx, ho => by
  unfold l10_0
  by_cases c : i < m
  ·rw [if_pos (by omega)]
   obtain ⟨r, h1, h2, e⟩ := l10_1_ok n hn (l10_0 n a (m : Int) k) a x1 i ha (by omega) (by omega) n 0 (by omega) (by omega) [] (by simp) (by simp)
   rw [show ((0 : Nat) : Int) = 0 from rfl] at e
   rw [e]
   refine l10_0_ok n hn a m hm ha k (i + 1) (by omega) (by omega) _ (by simp [hx]) fun p hp => ?_
   rcases List.mem_append.1 hp with h | h
   ·exact ho _ h
   ·rw [List.mem_singleton.1 h]; exact ⟨h1, h2⟩
  ·rw [if_neg (by omega)]
   exact ⟨x1, by omega, ho, rfl⟩
theorem g10_ok (n : Nat) (hn : 1000 ≤ n) (a : List Int) (m : Nat) (hm : m ≤ 20) (ha : ∀ x, x ∈ a → isI64 x) : ∃ r, r.length = m ∧ (∀ p, p ∈ r → p.length ≤ 4 ∧ ∀ s, s ∈ p → okP s) ∧ g10 n a (m : Int) = some r :=
 l10_0_ok n hn a m hm ha n 0 (by omega) (by omega) [] rfl (by simp)
theorem tot_le (m : Nat) : ∀ (r : List (List S1)), (∀ p, p ∈ r → p.length ≤ m) → tot r ≤ m * r.length
 | [], _ => by simp [tot]
 | p :: t, h => by
  have h1 := tot_le m t (fun q hq => h q (List.mem_cons_of_mem _ hq))
  have h2 := h p (List.mem_cons_self ..)
  unfold tot at h1 ⊢
  simp only [List.flatten_cons, List.length_append, List.length_cons, Nat.mul_add]
  omega
theorem etaS8 (s : S8) : (⟨s.c0, s.c1, s.c2, s.c3, s.c4, s.c5, s.c6⟩ : S8) = s := rfl
end Go.Av
end
