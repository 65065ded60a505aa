/- the plain law, part 21 -/
import Derived.Test.YtcgndadlcgnilaaGreatP20
set_option autoImplicit false
set_option linter.unusedSimpArgs false
set_option linter.unusedVariables false
set_option linter.unnecessarySimpa false
section
namespace Go.Av
theorem l59_fl (n : Nat) (hn : 11 ≤ n) (h9 : n < 1000000) (a : List Int) (ha : ∀ x, x ∈ a → isI64 x) (hl : a.length < 1000000) : ∀ (k i : Nat) (l : List Int), i ≤ a.length → a.length - i < k → l.length + 10 * (a.length - i) < 100000000000 → l59_0 n a k l (i : Int) = some (l ++ fl vi (a.drop i))
 | 0, _, _, _, h, _ => by omega
 | k + 1, i, l, h1, h2, h3 => by
  unfold l59_0
  by_cases h : i < a.length
  ·have hx := ha _ (rd_in a i h)
   have := vi_len hx
   rw [if_pos (by omega), if_pos (by omega), g58_vi n hx hn (by omega), Option.bind_some, if_pos (by omega), wsucc i (by omega)]
   rw [l59_fl n hn h9 a ha hl k (i + 1) _ (by omega) (by omega) (by simp; omega), drop_cons a i h, fl_cons, List.append_assoc]
  ·rw [if_neg (by omega), List.drop_eq_nil_of_le (by omega), fl_nil, List.append_nil]
theorem l60_fl (n : Nat) (hn : 11 ≤ n) (h9 : n < 1000000) (a : List Int) (ha : ∀ x, x ∈ a → isU64 x) (hl : a.length < 1000000) : ∀ (k i : Nat) (l : List Int), i ≤ a.length → a.length - i < k → l.length + 10 * (a.length - i) < 100000000000 → l60_0 n a k l (i : Int) = some (l ++ fl vw (a.drop i))
 | 0, _, _, _, h, _ => by omega
 | k + 1, i, l, h1, h2, h3 => by
  unfold l60_0
  by_cases h : i < a.length
  ·have hx := ha _ (rd_in a i h)
   have := vw_len hx
   have hg : g86 n (rd a (i : Int)) = some (vw (rd a (i : Int))) := by
    have := g86_vu n (rd a (i : Int)).toNat (by have := hx.1; have := hx.2; omega) hn (by omega)
    rwa [Int.toNat_of_nonneg hx.1] at this
   rw [if_pos (by omega), if_pos (by omega), hg, Option.bind_some, if_pos (by omega), wsucc i (by omega)]
   rw [l60_fl n hn h9 a ha hl k (i + 1) _ (by omega) (by omega) (by simp; omega), drop_cons a i h, fl_cons, List.append_assoc]
  ·rw [if_neg (by omega), List.drop_eq_nil_of_le (by omega), fl_nil, List.append_nil]
theorem g59_vis (n : Nat) (hn : 1000 ≤ n) (h9 : n < 1000000) {a : List Int} (h : a.length < 1000 ∧ ∀ x, x ∈ a → isI64 x) : g59 n a = some (vis a) := by
 obtain ⟨hl, ha⟩ := h
 have hv := vu_len10 (x := a.length) (by omega)
 have := l59_fl n (by omega) h9 a ha (by omega) n 0 (vu a.length) (by omega) (by omega) (by omega)
 rw [List.drop_zero, show ((0 : Nat) : Int) = 0 from rfl] at this
 unfold g59
 rw [wrap_u64 (by omega) (by omega), g86_vu n _ (by omega) (by omega) (by omega), Option.bind_some, this]; rfl
theorem g60_vws (n : Nat) (hn : 1000 ≤ n) (h9 : n < 1000000) {a : List Int} (h : a.length < 1000 ∧ ∀ x, x ∈ a → isU64 x) : g60 n a = some (vws a) := by
 obtain ⟨hl, ha⟩ := h
 have hi : isI64 ((a.length : Nat) : Int) := ⟨by omega, by omega⟩
 have hv := vi_len hi
 have := l60_fl n (by omega) h9 a ha (by omega) n 0 (vi a.length) (by omega) (by omega) (by omega)
 rw [List.drop_zero, show ((0 : Nat) : Int) = 0 from rfl] at this
 unfold g60
 rw [g58_vi n hi (by omega) (by omega), Option.bind_some, this]; rfl
theorem g28_enc (n : Nat) (h1 : 1000 ≤ n) (h2 : n < 1000000) (r : S8) (h : okR r) : g28 n r = some (encR r) := by
 have l0 := vi_len h.c0
 have l1 := vi_len h.c1
 have l2 := vis_len h.c2
 have l3 := vis_len h.c3
 have l4 := vws_len h.c4
 have l5 := vws_len h.c5
 have l6 := vws_len h.c6
 have k2 := h.c2.1
 have k3 := h.c3.1
 have k4 := h.c4.1
 have k5 := h.c5.1
 have k6 := h.c6.1
 unfold g28
 rw [g58_vi n h.c0 (by omega) (by omega), Option.bind_some, g58_vi n h.c1 (by omega) (by omega), Option.bind_some, if_pos (by omega)]
 rw [g59_vis n h1 h2 h.c2, Option.bind_some, if_pos (by simp only [List.length_append]; omega)]
 rw [g59_vis n h1 h2 h.c3, Option.bind_some, if_pos (by simp only [List.length_append]; omega)]
 rw [g60_vws n h1 h2 h.c4, Option.bind_some, if_pos (by simp only [List.length_append]; omega)]
 rw [g60_vws n h1 h2 h.c5, Option.bind_some, if_pos (by simp only [List.length_append]; omega)]
 rw [g60_vws n h1 h2 h.c6, Option.bind_some, if_pos (by simp only [List.length_append]; omega)]
 rfl
end Go.Av
end
