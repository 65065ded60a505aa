/- the plain law, part 8 -/
import Derived.Test.YtjmhdecofadfnaaGreatP7
set_option autoImplicit false
set_option linter.unusedSimpArgs false
set_option linter.unusedVariables false
set_option linter.unnecessarySimpa false
section
namespace Go.Av
/-- a reader's state -/
structure Rd (m : Nat) (s : S8) : Prop where
 len : s.c0.length ≤ m
 u8 : ∀ b, b ∈ s.c0 → 0 ≤ b ∧ b < 256
theorem g139_eq (n : Nat) (s : S8) (a : Int) : g139 n s a = some ⟨s.c0, if s.c1 = 0 then a else s.c1⟩ := by
 unfold g139
 by_cases h : s.c1 = 0
 ·rw [if_pos h, if_pos h]
 ·rw [if_neg h, if_neg h]
theorem g138_tot (n m : Nat) (s : S8) (h : Rd m s) : ∃ c s', g138 n s = some (c, s') ∧ Rd m s' ∧ 0 ≤ c ∧ c < 256 := by
 obtain ⟨l, e⟩ := s
 cases l with
 | nil =>
  by_cases h0 : e = 0
  ·refine ⟨0, ⟨[], 3⟩, ?_, ⟨h.len, h.u8⟩, by decide, by decide⟩
   unfold g138
   rw [if_pos (by simp), g139_eq]
   simp [h0]
  ·refine ⟨0, ⟨[], e⟩, ?_, h, by decide, by decide⟩
   unfold g138
   rw [if_pos (by simp), g139_eq]
   simp [h0]
 | cons b l =>
  by_cases h0 : e = 0
  ·subst h0
   exact ⟨b, ⟨l, 0⟩, g138_cons n b l, ⟨by have := h.len; simp at this ⊢; omega, fun x hx => h.u8 x (List.mem_cons_of_mem _ hx)⟩, h.u8 b (List.mem_cons_self ..)⟩
  ·refine ⟨0, ⟨b :: l, e⟩, ?_, h, by decide, by decide⟩
   unfold g138
   rw [if_neg (by simp <;> omega), if_neg h0]
def T54 (m : Nat) (o : Option (Int × S8)) : Prop := ∃ v s, o = some (v, s) ∧ isU64 v ∧ Rd m s
theorem l93_tot (n m : Nat) : ∀ (k i : Nat) (a : Int) (s : S8), i ≤ 10 → 11 ≤ k + i → (i = 10 → s.c1 ≠ 0) → Rd m s → T54 m (l93_0 n k a (i : Int) s.c0 s.c1)
 | 0, _, _, _, h, h1, _, _ => by omega
 | k + 1, i, a, s, h, h1, h2, hs => by
  unfold l93_0
  by_cases h0 : s.c1 = 0
  ·have h9 : i ≤ 9 := by
    rcases Nat.lt_or_ge i 10 with q | q
    ·omega
    ·exact absurd h0 (h2 (by omega))
   obtain ⟨c, s', e, hs', c0, c1⟩ := g138_tot n m s hs
   have hw : ¬ (IntKind.i64.wrap (7 * (i : Int)) < 0) := by rw [wrap_i64] <;> omega
   have hi : IntKind.i64.wrap ((i : Int) + 1) = ((i + 1 : Nat) : Int) := wsucc i (by omega)
   have IH : ∀ (a : Int) (e : Int), (i = 9 → e ≠ 0) → T54 m (l93_0 n k a ((i + 1 : Nat) : Int) s'.c0 e) := fun a e he =>
    l93_tot n m k (i + 1) a ⟨s'.c0, e⟩ (by omega) (by omega) (fun q => he (by omega)) ⟨hs'.len, hs'.u8⟩
   have LF : ∀ (x y : Int) (e : Int), T54 m (some (bitsA .or .u64 x y, (⟨s'.c0, e⟩ : S8))) := fun x y e => ⟨_, _, rfl, wrap_u64_range _, hs'.len, hs'.u8⟩
   rw [if_pos h0]
   rw [show (⟨s.c0, s.c1⟩ : S8) = s from rfl, e]
   simp only [Option.bind_some, hw, g139_eq, hi, not_false_eq_true, if_true]
   repeat' split
   all_goals first | exact LF _ _ _ | exact IH _ _ (fun q => by omega) | (refine IH _ _ (fun q => ?_); intro q'; omega) | (exfalso; omega) | skip
  ·rw [if_neg h0]
   exact ⟨_, _, rfl, ⟨by decide, by decide⟩, hs⟩
theorem g93_tot (n m : Nat) (hn : 11 ≤ n) (s : S8) (h : Rd m s) : T54 m (g93 n s) := l93_tot n m n 0 0 s (by omega) (by omega) (by omega) h
def T29 (m : Nat) (o : Option (Int × S8)) : Prop := ∃ v s, o = some (v, s) ∧ isI64 v ∧ Rd m s
theorem g40_tot (n m : Nat) (hn : 11 ≤ n) (s : S8) (h : Rd m s) : T29 m (g40 n s) := by
 obtain ⟨v, s', e, _, hs⟩ := g93_tot n m hn s h
 unfold g40
 rw [show (⟨s.c0, s.c1⟩ : S8) = s from rfl, e]
 exact ⟨_, _, rfl, wrap_i64_range _, hs⟩
end Go.Av
end
