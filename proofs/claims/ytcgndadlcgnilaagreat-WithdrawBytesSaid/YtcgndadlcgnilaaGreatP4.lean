/- the plain law, part 4 -/
import Derived.Test.YtcgndadlcgnilaaGreatP3
set_option autoImplicit false
set_option linter.unusedSimpArgs false
set_option linter.unusedVariables false
set_option linter.unnecessarySimpa false
section
namespace Go.Av
instance (l : List Int) : Decidable (Inc l) := by unfold Inc; infer_instance
/-- rising: the reference's answer -/
theorem l36_inc (n : Nat) (a : List Int) (ha : a.length ≤ 1000) : ∀ (k i : Nat), a.length - i < k → 1 ≤ i → Inc (a.take i) → l36_0 n a k (i : Int) = some (decide (Inc a))
 | 0, _, h, _, _ => by omega
 | k + 1, i, hk, h1, hI => by
  unfold l36_0
  by_cases c : i < a.length
  ·rw [if_pos (by omega), if_pos (by omega), wpred i (by omega) h1, if_pos (by omega), rd_nat a i c, rd_nat a (i - 1) (by omega)]
   by_cases q : a[i] ≤ a[i - 1]
   ·rw [if_pos q]
    symm
    rw [Option.some.injEq, decide_eq_false_iff_not]
    intro h
    have := (List.pairwise_iff_getElem.1 h) (i - 1) i (by omega) c (by omega)
    omega
   ·rw [if_neg q, wsucc i (by omega)]
    refine l36_inc n a ha k (i + 1) (by omega) (by omega) ?_
    rw [List.take_add_one, List.getElem?_eq_getElem c]
    refine List.pairwise_append.2 ⟨hI, List.pairwise_singleton .., fun x hx b hb => ?_⟩
    simp only [Option.toList_some, List.mem_singleton] at hb
    subst hb
    obtain ⟨j, hj, rfl⟩ := List.mem_take_iff_getElem.1 hx
    rcases Nat.lt_or_ge j (i - 1) with h | h
    ·have h3 : (a.take i)[j]'(by simp; omega) < (a.take i)[i - 1]'(by simp; omega) := (List.pairwise_iff_getElem.1 hI) j (i - 1) _ _ h
     simp only [List.getElem_take] at h3
     omega
    ·have : j = i - 1 := by omega
     subst this; omega
  ·rw [if_neg (by omega)]
   rw [List.take_of_length_le (by omega)] at hI
   simp [hI]
theorem g36_inc (n : Nat) (hn : 1000 ≤ n) (a : List Int) (ha : a.length < 900) : g36 n a = some (decide (Inc a)) :=
 l36_inc n a (by omega) n 1 (by omega) (by omega) (by
  rcases a with _ | ⟨x, t⟩
  ·exact List.Pairwise.nil
  ·exact List.pairwise_singleton ..)
/-- put: a number into a rising list -/
def pu (v : Int) : Bool → List Int → List Int
 | d, [] => if d then [] else [v]
 | d, y :: t => if v < y then (if d then y :: pu v true t else v :: y :: pu v true t) else (if d then y :: pu v true t else y :: pu v (decide (v ≤ y)) t)
theorem pu_true (v : Int) : ∀ l, pu v true l = l
 | [] => rfl
 | y :: t => by simp [pu, pu_true v t]
theorem pu_ok (v : Int) : ∀ l, Inc l → Inc (pu v false l) ∧ ∀ x, x ∈ pu v false l ↔ x = v ∨ x ∈ l
 | [], _ => by simp [pu, Inc]
 | y :: t, h => by
  obtain ⟨h1, h2⟩ := List.pairwise_cons.1 h
  unfold pu
  by_cases c : v < y
  ·simp only [c, if_true, pu_true, Bool.false_eq_true, if_false]
   refine ⟨List.pairwise_cons.2 ⟨fun x hx => ?_, h⟩, fun x => List.mem_cons⟩
   rcases List.mem_cons.1 hx with rfl | hx
   ·exact c
   ·have := h1 x hx; omega
  ·by_cases c2 : v ≤ y
   ·have : v = y := by omega
    subst this
    simp only [c, if_false, Bool.false_eq_true, c2, decide_true, pu_true]
    exact ⟨h, fun x => by simp⟩
   ·obtain ⟨i1, i2⟩ := pu_ok v t h2
    simp only [c, if_false, Bool.false_eq_true, c2, decide_false]
    refine ⟨List.pairwise_cons.2 ⟨fun x hx => ?_, i1⟩, fun x => ?_⟩
    ·rcases (i2 x).1 hx with rfl | hx
     ·omega
     ·exact h1 x hx
    ·rw [List.mem_cons, i2 x, List.mem_cons]
     constructor
     ·rintro (h | h | h)
      ·exact .inr (.inl h)
      ·exact .inl h
      ·exact .inr (.inr h)
     ·rintro (h | h | h)
      ·exact .inr (.inl h)
      ·exact .inl h
      ·exact .inr (.inr h)
theorem l41_pu (n : Nat) (a : List Int) (v : Int) (ha : a.length ≤ 1000) : ∀ (k i : Nat) (acc : List Int) (d : Bool), a.length - i < k → i ≤ a.length → acc.length ≤ i + d.toNat → l41_0 n a v k acc d (i : Int) = some (acc ++ pu v d (a.drop i))
 | 0, _, _, _, h, _, _ => by omega
 | k + 1, i, acc, d, hk, hi, hl => by
  unfold l41_0
  by_cases c : i < a.length
  ·rw [if_pos (by omega), if_pos (by omega), drop_cons a i c]
   have L0 : acc.length ≤ i + 1 := by have := Bool.toNat_le d; omega
   have L : acc.length + 1 ≤ 17592186044416 := by omega
   have I : (0 : Int) ≤ (i : Int) ∧ (i : Int) < (a.length : Int) := by omega
   have L2 : (acc ++ [v]).length + 1 ≤ 17592186044416 := by simp; omega
   unfold pu
   simp only [I, L, L2, if_true, and_self, wsucc i (by omega)]
   by_cases c2 : v < rd a (i : Int)
   ·rw [if_pos c2, if_pos c2]
    rcases d with _ | _
    ·simp only [Bool.false_eq_true, if_false, show v ≤ rd a (i : Int) by omega, decide_true]
     rw [l41_pu n a v ha k (i + 1) _ true (by omega) (by omega) (by simp at hl ⊢; omega)]
     simp
    ·rw [if_pos rfl, if_pos rfl, l41_pu n a v ha k (i + 1) _ true (by omega) (by omega) (by simp at hl ⊢; omega)]
     simp
   ·rw [if_neg c2, if_neg c2]
    rcases d with _ | _
    ·simp only [Bool.false_eq_true, if_false]
     rw [l41_pu n a v ha k (i + 1) _ _ (by omega) (by omega) (by simp at hl ⊢; omega)]
     simp
    ·rw [if_pos rfl, if_pos rfl, l41_pu n a v ha k (i + 1) _ true (by omega) (by omega) (by simp at hl ⊢; omega)]
     simp
  ·rw [if_neg (by omega), List.drop_eq_nil_of_le (by omega)]
   rcases d with _ | _
   ·simp only [Bool.false_eq_true, if_false, pu]
    rw [if_pos (by simp at hl; omega)]
   ·simp [pu]
theorem g41_ok (n : Nat) (hn : 1000 ≤ n) (a : List Int) (v : Int) (ha : a.length < 1000) (hI : Inc a) : ∃ r, g41 n a v = some r ∧ Inc r ∧ r.length ≤ a.length + 1 ∧ ∀ x, x ∈ r ↔ x = v ∨ x ∈ a := by
 have := l41_pu n a v (by omega) n 0 [] false (by omega) (by omega) (by simp)
 refine ⟨pu v false a, by simpa [g41] using this, (pu_ok v a hI).1, ?_, (pu_ok v a hI).2⟩
 have : ∀ d l, (pu v d l).length ≤ l.length + 1 := by
  intro d l
  induction l generalizing d with
  | nil => unfold pu; split <;> simp
  | cons y t ih =>
   unfold pu
   have := ih true; have := ih (decide (v ≤ y))
   repeat' split
   all_goals simp [pu_true] at *
   all_goals omega
 exact this _ _
/-- the reference's inputs of a receipt: put one after the other -/
theorem l14_1_ok (n : Nat) (hn : 1000 ≤ n) (a0 a1 : Int) (a4 u w x y : List Int) (ha : a4.length < 900) : ∀ (k i : Nat) (acc : List Int), a4.length - i < k → i ≤ a4.length → acc.length ≤ i → Inc acc →
  ∃ r, l14_1 n a0 a1 a4 u w x y k (i : Int) acc = some (⟨a0, a1, u, w, r, x, y⟩, 0) ∧ Inc r ∧ r.length ≤ a4.length ∧ ∀ z, z ∈ r ↔ z ∈ acc ∨ z ∈ a4.drop i
 | 0, _, _, h, _, _, _ => by omega
 | k + 1, i, acc, hk, hi, hl, hI => by
  unfold l14_1
  by_cases c : i < a4.length
  ·obtain ⟨r, e, h1, h2, h3⟩ := g41_ok n hn acc (rd a4 (i : Int)) (by omega) hI
   rw [if_pos (by omega), if_pos (by omega), e]
   simp only [Option.bind_some]
   rw [wsucc i (by omega)]
   obtain ⟨r', e', i1, i2, i3⟩ := l14_1_ok n hn a0 a1 a4 u w x y ha k (i + 1) r (by omega) (by omega) (by omega) h1
   refine ⟨r', e', i1, i2, fun z => ?_⟩
   rw [i3 z, h3 z, drop_cons a4 i c, List.mem_cons]
   constructor
   ·rintro ((h | h) | h)
    ·exact .inr (.inl h)
    ·exact .inl h
    ·exact .inr (.inr h)
   ·rintro (h | h | h)
    ·exact .inl (.inr h)
    ·exact .inl (.inl h)
    ·exact .inr h
  ·rw [if_neg (by omega), List.drop_eq_nil_of_le (by omega)]
   exact ⟨acc, rfl, hI, by omega, by simp⟩
end Go.Av
end
