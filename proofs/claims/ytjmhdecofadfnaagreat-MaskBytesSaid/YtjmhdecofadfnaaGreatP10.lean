/- the plain law, part 10 -/
import Derived.Test.YtjmhdecofadfnaaGreatP9
set_option autoImplicit false
set_option linter.unusedSimpArgs false
set_option linter.unusedVariables false
set_option linter.unnecessarySimpa false
section
namespace Go.Av
def vr (r : S1) : List Int := vi r.c0 ++ (vi r.c1 ++ vi r.c2)
def fr (l : List S1) : List Int := (l.map vr).flatten
theorem fr_cons (r : S1) (l : List S1) : fr (r :: l) = vr r ++ fr l := rfl
theorem drop_cons {α : Type} [Inhabited α] (l : List α) (i : Nat) (h : i < l.length) : l.drop i = rd l (i : Int) :: l.drop (i + 1) := by
 rw [rd_nat l i h]; exact List.drop_eq_getElem_cons h
def okr (r : S1) : Prop := isI64 r.c0 ∧ isI64 r.c1 ∧ isI64 r.c2
/-- a mask that can be encoded -/
structure okM (m : S5) : Prop where
 c0 : isI64 m.c0
 c1 : isI64 m.c1
 l : m.c2.length ≤ 3200
 r : ∀ r, r ∈ m.c2 → okr r
def encM (m : S5) : List Int := vi m.c0 ++ (vi m.c1 ++ (vi (m.c2.length : Int) ++ fr m.c2))
theorem vr_len {r : S1} (h : okr r) : (vr r).length ≤ 30 := by
 have h0 := vi_len h.1
 have h1 := vi_len h.2.1
 have h2 := vi_len h.2.2
 simp [vr]; omega
theorem vr_ge (r : S1) : 3 ≤ (vr r).length := by
 have h0 := vu_pos (zz2 r.c0)
 have h1 := vu_pos (zz2 r.c1)
 have h2 := vu_pos (zz2 r.c2)
 simp [vr, vi]; omega
theorem fr_len : ∀ (l : List S1), (∀ r, r ∈ l → okr r) → (fr l).length ≤ 30 * l.length ∧ 3 * l.length ≤ (fr l).length
 | [], _ => by simp [fr]
 | r :: l, h => by
  have h1 := vr_len (h r (List.mem_cons_self ..))
  have h2 := vr_ge r
  have h3 := fr_len l (fun x hx => h x (List.mem_cons_of_mem _ hx))
  rw [fr_cons]
  simp; omega
theorem encM_len {m : S5} (h : okM m) : (encM m).length ≤ 30 + 30 * m.c2.length ∧ m.c2.length + 3 ≤ (encM m).length := by
 have h0 := vi_len h.c0
 have h1 := vi_len h.c1
 have h2 := vi_len (a := (m.c2.length : Int)) ⟨by omega, by have := h.l; omega⟩
 have k0 := vu_pos (zz2 m.c0)
 have k1 := vu_pos (zz2 m.c1)
 have k2 := vu_pos (zz2 (m.c2.length : Int))
 have h3 := fr_len m.c2 h.r
 have e : ∀ a, vi a = vu (zz2 a) := fun _ => rfl
 simp only [encM, List.length_append]
 rw [e m.c0, e m.c1, e (m.c2.length : Int)] at *
 omega
theorem done_id (n : Nat) (l : List Int) (h : l.length ≤ 100000) : g88 n ⟨l⟩ = some l := by
 unfold g88 g90
 rw [if_pos (by simp only []; omega)]; rfl
section
variable (n : Nat) (hn : 4000 ≤ n) (hn2 : n < 1000000) (m : S5) (h : okM m)
include hn hn2 h
theorem l36_2_ok (R : Int → List Int → Option (List Int)) (i : Nat) (hi : i < m.c2.length) (hi9 : i < 4000) : ∀ (k j : Nat) (acc : List Int), 3 - j < k → j ≤ 3 → acc.length + 10 * (3 - j) ≤ 100000 →
  l36_2 n R m (i : Int) k (j : Int) acc = R ((i + 1 : Nat) : Int) (acc ++ fl vi (([(rd m.c2 (i : Int)).c0, (rd m.c2 (i : Int)).c1, (rd m.c2 (i : Int)).c2] : List Int).drop j))
 | 0, _, _, h, _, _ => by omega
 | k + 1, j, acc, h1, h2, h3 => by
  have hr := h.r _ (mem_rd m.c2 i hi)
  have hall : ∀ x, x ∈ ([(rd m.c2 (i : Int)).c0, (rd m.c2 (i : Int)).c1, (rd m.c2 (i : Int)).c2] : List Int) → isI64 x := fun x hx => by
   simp only [List.mem_cons, List.not_mem_nil, or_false] at hx
   rcases hx with rfl | rfl | rfl
   ·exact hr.1
   ·exact hr.2.1
   ·exact hr.2.2
  unfold l36_2
  by_cases c : j < 3
  ·have hj := hall _ (mem_rd _ j (by simpa using c))
   have hv := vi_len hj
   rw [if_pos (by omega), if_pos (by omega), g87_vi n acc hj (by omega) (by omega)]
   simp only [Option.bind_some]
   rw [wsucc j (by omega), l36_2_ok R i hi hi9 k (j + 1) _ (by omega) (by omega) (by simp; omega), drop_cons _ j (by simpa using c), fl_cons, List.append_assoc]
  ·rw [if_neg (by omega), List.drop_eq_nil_of_le (by simpa using by omega), fl_nil, List.append_nil, wsucc i (by omega)]
theorem l36_1_ok : ∀ (k i : Nat) (acc : List Int), m.c2.length - i < k → i ≤ m.c2.length → acc.length + 30 * (m.c2.length - i) ≤ 99000 → l36_1 n m k (i : Int) acc = some (acc ++ fr (m.c2.drop i))
 | 0, _, _, h, _, _ => by omega
 | k + 1, i, acc, h1, h2, h3 => by
  have hl := h.l
  unfold l36_1
  by_cases c : i < m.c2.length
  ·have hv := vr_len (h.r _ (mem_rd m.c2 i c))
   have := l36_2_ok n hn hn2 m h (l36_1 n m k) i c (by omega) n 0 acc (by omega) (by omega) (by omega)
   rw [show ((0 : Nat) : Int) = 0 from rfl] at this
   have e : fl vi (List.drop 0 ([(rd m.c2 (i : Int)).c0, (rd m.c2 (i : Int)).c1, (rd m.c2 (i : Int)).c2] : List Int)) = vr (rd m.c2 (i : Int)) := by simp [fl, vr]
   rw [if_pos (by omega), if_pos (by omega), this, e, l36_1_ok k (i + 1) _ (by omega) (by omega) (by simp; omega), drop_cons _ i c, fr_cons, List.append_assoc]
  ·rw [if_neg (by omega), List.drop_eq_nil_of_le (by omega), done_id n acc (by omega)]
   simp [fr]
theorem l36_0_ok : ∀ (k j : Nat) (acc : List Int), 3 - j < k → j ≤ 3 → acc.length + 10 * (3 - j) ≤ 30 →
  l36_0 n m k (j : Int) acc = some (acc ++ fl vi (([m.c0, m.c1, (m.c2.length : Int)] : List Int).drop j) ++ fr m.c2)
 | 0, _, _, h, _, _ => by omega
 | k + 1, j, acc, h1, h2, h3 => by
  have hl := h.l
  have hall : ∀ x, x ∈ ([m.c0, m.c1, (m.c2.length : Int)] : List Int) → isI64 x := fun x hx => by
   simp only [List.mem_cons, List.not_mem_nil, or_false] at hx
   rcases hx with rfl | rfl | rfl
   ·exact h.c0
   ·exact h.c1
   ·exact ⟨by omega, by omega⟩
  unfold l36_0
  by_cases c : j < 3
  ·have hj := hall _ (mem_rd _ j (by simpa using c))
   have hv := vi_len hj
   rw [if_pos (by omega), if_pos (by omega), g87_vi n acc hj (by omega) (by omega)]
   simp only [Option.bind_some]
   rw [wsucc j (by omega), l36_0_ok k (j + 1) _ (by omega) (by omega) (by simp; omega), drop_cons _ j (by simpa using c), fl_cons, List.append_assoc acc]
  ·have := l36_1_ok n hn hn2 m h n 0 acc (by omega) (by omega) (by omega)
   rw [show ((0 : Nat) : Int) = 0 from rfl] at this
   rw [if_neg (by omega), List.drop_eq_nil_of_le (by simpa using by omega), fl_nil, List.append_nil, this, List.drop_zero]
theorem g36_enc : g36 n m = some (encM m) := by
 have := l36_0_ok n hn hn2 m h n 0 [] (by omega) (by omega) (by simp)
 rw [show ((0 : Nat) : Int) = 0 from rfl] at this
 unfold g36
 rw [this]
 simp [fl, encM]
theorem l39_ok : ∀ (k i : Nat) (acc : List Int), m.c2.length - i < k → i ≤ m.c2.length → acc.length + 30 * (m.c2.length - i) ≤ 99000 → l39_0 n m k acc (i : Int) = some (acc ++ fr (m.c2.drop i))
 | 0, _, _, h, _, _ => by omega
 | k + 1, i, acc, h1, h2, h3 => by
  have hl := h.l
  unfold l39_0
  by_cases c : i < m.c2.length
  ·have hr := h.r _ (mem_rd m.c2 i c)
   have v0 := vi_len hr.1
   have v1 := vi_len hr.2.1
   have v2 := vi_len hr.2.2
   rw [if_pos (by omega), if_pos (by omega), g91_vi n hr.1 (by omega) (by omega)]
   simp only [Option.bind_some]
   rw [if_pos (by omega), if_pos (by omega), g91_vi n hr.2.1 (by omega) (by omega)]
   simp only [Option.bind_some]
   rw [if_pos (by simp; omega), if_pos (by omega), g91_vi n hr.2.2 (by omega) (by omega)]
   simp only [Option.bind_some]
   rw [if_pos (by simp; omega), wsucc i (by omega), l39_ok k (i + 1) _ (by omega) (by omega) (by simp; omega), drop_cons _ i c, fr_cons]
   simp [vr]
  ·rw [if_neg (by omega), List.drop_eq_nil_of_le (by omega)]
   simp [fr]
theorem g39_enc : g39 n m = some (encM m) := by
 have hl := h.l
 have h2 : isI64 (m.c2.length : Int) := ⟨by omega, by omega⟩
 have v0 := vi_len h.c0
 have v1 := vi_len h.c1
 have v2 := vi_len h2
 unfold g39
 rw [g91_vi n h.c0 (by omega) (by omega)]
 simp only [Option.bind_some]
 rw [g91_vi n h.c1 (by omega) (by omega)]
 simp only [Option.bind_some]
 rw [if_pos (by omega), g91_vi n h2 (by omega) (by omega)]
 simp only [Option.bind_some]
 have := l39_ok n hn hn2 m h n 0 ((vi m.c0 ++ vi m.c1) ++ vi (m.c2.length : Int)) (by omega) (by omega) (by simp; omega)
 rw [show ((0 : Nat) : Int) = 0 from rfl] at this
 rw [if_pos (by simp; omega), this]
 simp [encM]
end
end Go.Av
end
