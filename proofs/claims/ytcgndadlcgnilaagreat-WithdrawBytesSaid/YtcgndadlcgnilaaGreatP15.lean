/- the plain law, part 15 -/
import Derived.Test.YtcgndadlcgnilaaGreatP14
set_option autoImplicit false
set_option linter.unusedSimpArgs false
set_option linter.unusedVariables false
set_option linter.unnecessarySimpa false
section
namespace Go.Av
theorem vu_len : ∀ (k x : Nat), x < 128 ^ k → 0 < k → (vu x).length ≤ k
 | 0, _, _, h => by omega
 | k + 1, x, h, _ => by
  by_cases hx : x < 128
  ·rw [vu_lt hx]; simp
  ·rw [vu_ge hx]
   cases k with
   | zero => omega
   | succ k =>
    have : x / 128 < 128 ^ (k + 1) := by
     rw [Nat.div_lt_iff_lt_mul (by decide)]; rw [Nat.pow_succ] at h; exact h
    have := vu_len (k + 1) _ this (by omega)
    simp; omega
theorem vu_len10 {x : Nat} (h : x < 18446744073709551616) : (vu x).length ≤ 10 := vu_len 10 x (Nat.lt_of_lt_of_le h (by decide)) (by decide)
theorem vu_pos (x : Nat) : 1 ≤ (vu x).length := by
 by_cases hx : x < 128
 ·rw [vu_lt hx]; simp
 ·rw [vu_ge hx]; simp
/-- a signed number's bytes -/
def vi (a : Int) : List Int := vu (zz2 a)
/-- a word's bytes -/
def vw (a : Int) : List Int := vu a.toNat
theorem vi_len {a : Int} (h : isI64 a) : (vi a).length ≤ 10 := vu_len10 (zz2_lt h)
theorem vw_len {a : Int} (h : isU64 a) : (vw a).length ≤ 10 := vu_len10 (by have := h.2; have := h.1; omega)
def fl (f : Int → List Int) (a : List Int) : List Int := (a.map f).flatten
theorem fl_nil (f : Int → List Int) : fl f [] = [] := rfl
theorem fl_cons (f : Int → List Int) (x : Int) (a : List Int) : fl f (x :: a) = f x ++ fl f a := by simp [fl]
theorem fl_len (f : Int → List Int) : ∀ (a : List Int), (∀ x, x ∈ a → (f x).length ≤ 10) → (fl f a).length ≤ 10 * a.length
 | [], _ => by simp [fl]
 | x :: a, h => by
  rw [fl_cons]
  have h1 := h x (by simp)
  have h2 := fl_len f a (fun y hy => h y (by simp [hy]))
  simp; omega
theorem g49_vi (n : Nat) {a : Int} (l : List Int) (h : isI64 a) (hn : 11 ≤ n) (hl : l.length + n < 140737488355328) : g49 n ⟨l⟩ a = some ⟨l ++ vi a⟩ := g49_vu n l h hn hl
theorem g80_vw (n : Nat) {a : Int} (l : List Int) (h : isU64 a) (hn : 11 ≤ n) (hl : l.length + n < 140737488355328) : g80 n ⟨l⟩ a = some ⟨l ++ vw a⟩ := by
 obtain ⟨h1, h2⟩ := h
 have := g80_vu n a.toNat l (by omega) hn hl
 rwa [Int.toNat_of_nonneg h1] at this
theorem l50_fl (n : Nat) (hn : 11 ≤ n) (a : List Int) (ha : ∀ x, x ∈ a → isI64 x) (hl : a.length < 1000000) : ∀ (k i : Nat) (l : List Int), i ≤ a.length → a.length - i < k → l.length + 10 * (a.length - i) + n < 140737488355328 → l50_0 n a k (i : Int) l = some ⟨l ++ fl vi (a.drop i)⟩
 | 0, _, _, _, h, _ => by omega
 | k + 1, i, l, h1, h2, h3 => by
  unfold l50_0
  by_cases h : i < a.length
  ·have hx : isI64 (rd a (i : Int)) := by
    rw [show rd a (i : Int) = a[i] by simp [rd, h]]; exact ha _ (List.getElem_mem h)
   rw [if_pos (by omega), if_pos (by omega), g49_vi n l hx hn (by omega), Option.bind_some, wsucc i (by omega)]
   have := vi_len hx
   rw [l50_fl n hn a ha hl k (i + 1) _ (by omega) (by omega) (by simp; omega), drop_cons a i h, fl_cons, List.append_assoc]
  ·rw [if_neg (by omega), List.drop_eq_nil_of_le (by omega), fl_nil, List.append_nil]
theorem l51_fl (n : Nat) (hn : 11 ≤ n) (a : List Int) (ha : ∀ x, x ∈ a → isU64 x) (hl : a.length < 1000000) : ∀ (k i : Nat) (l : List Int), i ≤ a.length → a.length - i < k → l.length + 10 * (a.length - i) + n < 140737488355328 → l51_0 n a k (i : Int) l = some ⟨l ++ fl vw (a.drop i)⟩
 | 0, _, _, _, h, _ => by omega
 | k + 1, i, l, h1, h2, h3 => by
  unfold l51_0
  by_cases h : i < a.length
  ·have hx : isU64 (rd a (i : Int)) := by
    rw [show rd a (i : Int) = a[i] by simp [rd, h]]; exact ha _ (List.getElem_mem h)
   rw [if_pos (by omega), if_pos (by omega), g80_vw n l hx hn (by omega), Option.bind_some, wsucc i (by omega)]
   have := vw_len hx
   rw [l51_fl n hn a ha hl k (i + 1) _ (by omega) (by omega) (by simp; omega), drop_cons a i h, fl_cons, List.append_assoc]
  ·rw [if_neg (by omega), List.drop_eq_nil_of_le (by omega), fl_nil, List.append_nil]
/-- a list of numbers -/
def vis (a : List Int) : List Int := vu a.length ++ fl vi a
def vws (a : List Int) : List Int := vi a.length ++ fl vw a
theorem g50_vis (n : Nat) (hn : 11 ≤ n) (a l : List Int) (ha : ∀ x, x ∈ a → isI64 x) (hl : a.length < 1000000) (hk : a.length < n) (hm : l.length + 10 + 10 * a.length + n < 140737488355328) : g50 n ⟨l⟩ a = some ⟨l ++ vis a⟩ := by
 unfold g50
 have hv := vu_len10 (x := a.length) (by omega)
 rw [wrap_u64 (by omega) (by omega), g80_vu n _ l (by omega) hn (by omega), Option.bind_some]
 have := l50_fl n hn a ha hl n 0 (l ++ vu a.length) (by omega) (by omega) (by simp; omega)
 simp only [List.drop_zero] at this
 rw [show ((0 : Nat) : Int) = 0 from rfl] at this
 simp only [this, vis, List.append_assoc]
theorem g51_vws (n : Nat) (hn : 11 ≤ n) (a l : List Int) (ha : ∀ x, x ∈ a → isU64 x) (hl : a.length < 1000000) (hk : a.length < n) (hm : l.length + 10 + 10 * a.length + n < 140737488355328) : g51 n ⟨l⟩ a = some ⟨l ++ vws a⟩ := by
 unfold g51
 have hi : isI64 ((a.length : Nat) : Int) := ⟨by omega, by omega⟩
 have hv := vi_len hi
 rw [g49_vi n l hi hn (by omega), Option.bind_some]
 have := l51_fl n hn a ha hl n 0 (l ++ vi (a.length : Int)) (by omega) (by omega) (by simp; omega)
 simp only [List.drop_zero] at this
 rw [show ((0 : Nat) : Int) = 0 from rfl] at this
 simp only [this, vws, List.append_assoc]
end Go.Av
end
