/- the plain law, part 22 -/
import Derived.Test.YtcgndadlcgnilaaGreatP21
set_option autoImplicit false
set_option linter.unusedSimpArgs false
set_option linter.unusedVariables false
set_option linter.unnecessarySimpa false
section
namespace Go.Av
/-- a reader's state -/
structure Rd (m : Nat) (s : S9) : Prop where
 len : s.c0.length ≤ m
 u8 : ∀ b, b ∈ s.c0 → 0 ≤ b ∧ b < 256
theorem g85_eq (n : Nat) (s : S9) (a : Int) : g85 n s a = some ⟨s.c0, if s.c1 = 0 then a else s.c1⟩ := by
 unfold g85
 by_cases h : s.c1 = 0
 ·rw [if_pos h, if_pos h]
 ·rw [if_neg h, if_neg h]
theorem g84_tot (n m : Nat) (s : S9) (h : Rd m s) : ∃ c s', g84 n s = some (c, s') ∧ Rd m s' ∧ 0 ≤ c ∧ c < 256 := by
 obtain ⟨l, e⟩ := s
 cases l with
 | nil =>
  by_cases h0 : e = 0
  ·refine ⟨0, ⟨[], 3⟩, ?_, ⟨h.len, h.u8⟩, by decide, by decide⟩
   unfold g84
   rw [if_pos (by simp), g85_eq]
   simp [h0]
  ·refine ⟨0, ⟨[], e⟩, ?_, h, by decide, by decide⟩
   unfold g84
   rw [if_pos (by simp), g85_eq]
   simp [h0]
 | cons b l =>
  by_cases h0 : e = 0
  ·subst h0
   exact ⟨b, ⟨l, 0⟩, g84_cons n b l, ⟨by have := h.len; simp at this ⊢; omega, fun x hx => h.u8 x (List.mem_cons_of_mem _ hx)⟩, h.u8 b (List.mem_cons_self ..)⟩
  ·refine ⟨0, ⟨b :: l, e⟩, ?_, h, by decide, by decide⟩
   unfold g84
   rw [if_neg (by simp <;> omega), if_neg h0]
def T54 (m : Nat) (o : Option (Int × S9)) : Prop := ∃ v s, o = some (v, s) ∧ isU64 v ∧ Rd m s
theorem l54_tot (n m : Nat) : ∀ (k i : Nat) (a : Int) (s : S9), i ≤ 10 → 11 ≤ k + i → (i = 10 → s.c1 ≠ 0) → Rd m s → T54 m (l54_0 n k a (i : Int) s.c0 s.c1)
 | 0, _, _, _, h, h1, _, _ => by omega
 | k + 1, i, a, s, h, h1, h2, hs => by
  unfold l54_0
  by_cases h0 : s.c1 = 0
  ·have h9 : i ≤ 9 := by
    rcases Nat.lt_or_ge i 10 with q | q
    ·omega
    ·exact absurd h0 (h2 (by omega))
   obtain ⟨c, s', e, hs', c0, c1⟩ := g84_tot n m s hs
   have hw : ¬ (IntKind.i64.wrap (7 * (i : Int)) < 0) := by rw [wrap_i64] <;> omega
   have hi : IntKind.i64.wrap ((i : Int) + 1) = ((i + 1 : Nat) : Int) := wsucc i (by omega)
   have IH : ∀ (a : Int) (e : Int), (i = 9 → e ≠ 0) → T54 m (l54_0 n k a ((i + 1 : Nat) : Int) s'.c0 e) := fun a e he =>
    l54_tot n m k (i + 1) a ⟨s'.c0, e⟩ (by omega) (by omega) (fun q => he (by omega)) ⟨hs'.len, hs'.u8⟩
   have LF : ∀ (x y : Int) (e : Int), T54 m (some (bitsA .or .u64 x y, (⟨s'.c0, e⟩ : S9))) := fun x y e => ⟨_, _, rfl, wrap_u64_range _, hs'.len, hs'.u8⟩
   rw [if_pos h0]
   rw [show (⟨s.c0, s.c1⟩ : S9) = s from rfl, e]
   simp only [Option.bind_some, hw, g85_eq, hi, not_false_eq_true, if_true]
   repeat' split
   all_goals first | exact LF _ _ _ | exact IH _ _ (fun q => by omega) | (refine IH _ _ (fun q => ?_); intro q'; omega) | (exfalso; omega) | skip
  ·rw [if_neg h0]
   exact ⟨_, _, rfl, ⟨by decide, by decide⟩, hs⟩
theorem g54_tot (n m : Nat) (hn : 11 ≤ n) (s : S9) (h : Rd m s) : T54 m (g54 n s) := l54_tot n m n 0 0 s (by omega) (by omega) (by omega) h
def T29 (m : Nat) (o : Option (Int × S9)) : Prop := ∃ v s, o = some (v, s) ∧ isI64 v ∧ Rd m s
theorem g29_tot (n m : Nat) (hn : 11 ≤ n) (s : S9) (h : Rd m s) : T29 m (g29 n s) := by
 obtain ⟨v, s', e, _, hs⟩ := g54_tot n m hn s h
 unfold g29
 rw [show (⟨s.c0, s.c1⟩ : S9) = s from rfl, e]
 exact ⟨_, _, rfl, wrap_i64_range _, hs⟩
def T53 (m : Nat) (o : Option (List Int × S9)) : Prop := ∃ v s, o = some (v, s) ∧ (v.length ≤ m ∧ ∀ x, x ∈ v → isI64 x) ∧ Rd m s
theorem l83_0_tot (n m k : Nat) (v : Int × S9) (c0 : List Int) (c1 : Int) (h : c1 ≠ 0) (hs : Rd m ⟨c0, c1⟩) : T53 m (l83_0_0 n v (k + 1) [] 0 c0 c1) := by
 unfold l83_0_0
 rw [if_neg h]
 split <;> exact ⟨_, _, rfl, ⟨by simp, by simp⟩, hs⟩
theorem l83_1_tot (n m : Nat) (hn : 11 ≤ n) (hm : m < 1000000) (v : Int × S9) (hv : v.1 ≤ (m : Int)) : ∀ (k i : Nat) (acc : List Int) (s : S9), m - i < k → acc.length = i → i ≤ m → (∀ x, x ∈ acc → isI64 x) → Rd m s → T53 m (l83_0_1 n v k acc (i : Int) s.c0 s.c1)
 | 0, _, _, _, h, _, _, _, _ => by omega
 | k + 1, i, acc, s, h1, h2, h3, h4, hs => by
  unfold l83_0_1
  by_cases h : (i : Int) < v.1
  ·rw [if_pos h]
   by_cases h0 : s.c1 = 0
   ·obtain ⟨x, s', e, hx, hs'⟩ := g29_tot n m hn s hs
    rw [if_pos h0, show (⟨s.c0, s.c1⟩ : S9) = s from rfl, e, Option.bind_some, if_pos (by omega), usucc i (by omega)]
    refine l83_1_tot n m hn hm v hv k (i + 1) _ s' (by omega) (by simp; omega) (by omega) (fun y hy => ?_) hs'
    rcases List.mem_append.1 hy with hy | hy
    ·exact h4 y hy
    ·rw [List.mem_singleton.1 hy]; exact hx
   ·rw [if_neg h0, if_neg h0]
    exact ⟨_, _, rfl, ⟨by simp, by simp⟩, hs⟩
  ·rw [if_neg h]
   by_cases h0 : s.c1 = 0
   ·rw [if_pos h0]; exact ⟨_, _, rfl, ⟨by omega, h4⟩, hs⟩
   ·rw [if_neg h0]; exact ⟨_, _, rfl, ⟨by simp, by simp⟩, hs⟩
theorem g53_tot (n m : Nat) (hn : 11 ≤ n) (hm : m < 1000000) (hk : m < n) (s : S9) (h : Rd m s) : T53 m (g53 n s) := by
 obtain ⟨v, s', e, hv, hs'⟩ := g54_tot n m hn s h
 have hl := hs'.len
 have hw : IntKind.u64.wrap (s'.c0.length : Int) = (s'.c0.length : Int) := wrap_u64 (by omega) (by omega)
 unfold g53 g83_0
 simp only [show (⟨s.c0, s.c1⟩ : S9) = s from rfl, e, Option.bind_some, hw, g85_eq]
 obtain ⟨k, rfl⟩ : ∃ k, n = k + 1 := ⟨n - 1, by omega⟩
 have : T53 m (if (s'.c0.length : Int) < v then l83_0_0 (k + 1) (v, s') (k + 1) [] 0 s'.c0 (if s'.c1 = 0 then 3 else s'.c1) else l83_0_1 (k + 1) (v, s') (k + 1) [] 0 s'.c0 s'.c1) := by
  split
  ·exact l83_0_tot _ m k _ _ _ (by split <;> omega) ⟨hs'.len, hs'.u8⟩
  ·exact l83_1_tot _ m hn hm (v, s') (by show v ≤ _; omega) (k + 1) 0 [] s' (by omega) rfl (by omega) (by simp) hs'
 obtain ⟨a, b, e', p, q⟩ := this
 rw [e']
 exact ⟨_, _, rfl, p, q⟩
end Go.Av
end
