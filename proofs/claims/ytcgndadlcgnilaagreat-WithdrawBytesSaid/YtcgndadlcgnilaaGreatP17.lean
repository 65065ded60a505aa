/- the plain law, part 17 -/
import Derived.Test.YtcgndadlcgnilaaGreatP16
set_option autoImplicit false
set_option linter.unusedSimpArgs false
set_option linter.unusedVariables false
set_option linter.unnecessarySimpa false
section
namespace Go.Av
/-- a receipt that can be encoded and read back -/
structure okR (r : S8) : Prop where
 c0 : isI64 r.c0
 c1 : isI64 r.c1
 c2 : r.c2.length < 1000 ∧ ∀ x, x ∈ r.c2 → isI64 x
 c3 : r.c3.length < 1000 ∧ ∀ x, x ∈ r.c3 → isI64 x
 c4 : r.c4.length < 1000 ∧ ∀ x, x ∈ r.c4 → isU64 x
 c5 : r.c5.length < 1000 ∧ ∀ x, x ∈ r.c5 → isU64 x
 c6 : r.c6.length < 1000 ∧ ∀ x, x ∈ r.c6 → isU64 x
/-- its bytes -/
def encR (r : S8) : List Int := vi r.c0 ++ vi r.c1 ++ vis r.c2 ++ vis r.c3 ++ vws r.c4 ++ vws r.c5 ++ vws r.c6
theorem vis_len {a : List Int} (h : a.length < 1000 ∧ ∀ x, x ∈ a → isI64 x) : (vis a).length ≤ 10 + 10 * a.length := by
 have h1 := fl_len vi a (fun x hx => vi_len (h.2 x hx))
 have h2 := vu_len10 (x := a.length) (by omega)
 simp [vis]; omega
theorem vws_len {a : List Int} (h : a.length < 1000 ∧ ∀ x, x ∈ a → isU64 x) : (vws a).length ≤ 10 + 10 * a.length := by
 have h1 := fl_len vw a (fun x hx => vw_len (h.2 x hx))
 have h2 := vi_len (a := ((a.length : Nat) : Int)) ⟨by omega, by omega⟩
 simp [vws]; omega
theorem g24_enc (n : Nat) (h1 : 1000 ≤ n) (h2 : n < 1000000) (r : S8) (h : okR r) : g24 n r = some (encR r) := by
 have l0 := vi_len h.c0
 have l1 := vi_len h.c1
 have l2 := vis_len h.c2
 have l3 := vis_len h.c3
 have l4 := vws_len h.c4
 have l5 := vws_len h.c5
 have l6 := vws_len h.c6
 have k2 := h.c2.1
 have k3 := h.c3.1
 have k4 := h.c4.1
 have k5 := h.c5.1
 have k6 := h.c6.1
 have hn : 11 ≤ n := by omega
 unfold g24
 rw [g49_vi n [] h.c0 hn (by simp; omega), Option.bind_some]
 rw [g49_vi n _ h.c1 hn (by simp; omega), Option.bind_some]
 rw [g50_vis n hn _ _ h.c2.2 (by omega) (by omega) (by simp; omega), Option.bind_some]
 rw [g50_vis n hn _ _ h.c3.2 (by omega) (by omega) (by simp; omega), Option.bind_some]
 rw [g51_vws n hn _ _ h.c4.2 (by omega) (by omega) (by simp; omega), Option.bind_some]
 rw [g51_vws n hn _ _ h.c5.2 (by omega) (by omega) (by simp; omega), Option.bind_some]
 rw [g51_vws n hn _ _ h.c6.2 (by omega) (by omega) (by simp; omega), Option.bind_some]
 unfold g52 g57
 rw [if_pos (by simp; omega)]
 simp [encR]
theorem l56_eq (n : Nat) (a b : List Int) (hl : a.length = b.length) (hb : a.length < 1000000) : ∀ (k i : Nat), i ≤ a.length → a.length - i < k → l56_0 n a b k (i : Int) = some (decide (a.drop i = b.drop i))
 | 0, _, _, h => by omega
 | k + 1, i, h1, h2 => by
  unfold l56_0
  by_cases h : i < a.length
  ·rw [if_pos (by omega), if_pos (by omega), if_pos (by omega), drop_cons a i h, drop_cons b i (by omega)]
   by_cases he : rd a (i : Int) = rd b (i : Int)
   ·rw [if_pos he, wsucc i (by omega), l56_eq n a b hl hb k (i + 1) (by omega) (by omega), he]; simp
   ·rw [if_neg he]; simp [he]
  ·rw [if_neg (by omega), List.drop_eq_nil_of_le (by omega), List.drop_eq_nil_of_le (by omega)]; simp
theorem g56_eq (n : Nat) (a b : List Int) (hb : a.length < n) (h2 : n < 1000000) : g56 n a b = some (decide (a = b)) := by
 unfold g56
 by_cases hl : a.length = b.length
 ·rw [if_pos (by omega)]
  simpa using l56_eq n a b hl (by omega) n 0 (by omega) (by omega)
 ·rw [if_neg (by omega)]
  simp; intro h; exact hl (by rw [h])
theorem l27_eq (n : Nat) (a b : List Int) (hl : a.length = b.length) (hb : a.length < 1000000) : ∀ (k i : Nat), i ≤ a.length → a.length - i < k → l27_0 n a b k (i : Int) = some (decide (a.drop i = b.drop i))
 | 0, _, _, h => by omega
 | k + 1, i, h1, h2 => by
  unfold l27_0
  by_cases h : i < a.length
  ·rw [if_pos (by omega), if_pos (by omega), if_pos (by omega), drop_cons a i h, drop_cons b i (by omega)]
   by_cases he : rd a (i : Int) = rd b (i : Int)
   ·rw [if_pos he, wsucc i (by omega), l27_eq n a b hl hb k (i + 1) (by omega) (by omega), he]; simp
   ·rw [if_neg he]; simp [he]
  ·rw [if_neg (by omega), List.drop_eq_nil_of_le (by omega), List.drop_eq_nil_of_le (by omega)]; simp
theorem g27_eq (n : Nat) (a b : List Int) (hb : a.length < n) (h2 : n < 1000000) : g27 n a b = some (decide (a = b)) := by
 unfold g27
 by_cases hl : a.length = b.length
 ·rw [if_pos (by omega)]
  simpa using l27_eq n a b hl (by omega) n 0 (by omega) (by omega)
 ·rw [if_neg (by omega)]
  simp; intro h; exact hl (by rw [h])
end Go.Av
end
