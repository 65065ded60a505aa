/- the plain law, part 2 -/
import Derived.Test.YtjmhdecofadfnaaGreatP1
set_option autoImplicit false
set_option linter.unusedSimpArgs false
set_option linter.unusedVariables false
set_option linter.unnecessarySimpa false
section
namespace Go.Av
/-- one run lies ahead of another one, with a gap -/
def lt1 (r s : S1) : Prop := r.c0 < s.c0 ∨ (r.c0 = s.c0 ∧ r.c2 < s.c1)
def In1 (r : S1) (y x : Int) : Prop := r.c0 = y ∧ r.c1 ≤ x ∧ x < r.c2
/-- the pixels of runs -/
def Px (l : List S1) (y x : Int) : Prop := ∃ r, r ∈ l ∧ In1 r y x
def Can (l : List S1) : Prop := l.Pairwise lt1 ∧ ∀ r, r ∈ l → r.c1 < r.c2
theorem px_nil (y x : Int) : ¬ Px [] y x := fun ⟨_, h, _⟩ => by cases h
theorem px_cons (r : S1) (l : List S1) (y x : Int) : Px (r :: l) y x ↔ In1 r y x ∨ Px l y x := by
 unfold Px
 constructor
 ·rintro ⟨s, h, k⟩
  rcases List.mem_cons.1 h with rfl | h
  ·exact .inl k
  ·exact .inr ⟨s, h, k⟩
 ·rintro (h | ⟨s, h, k⟩)
  ·exact ⟨r, List.mem_cons_self .., h⟩
  ·exact ⟨s, List.mem_cons_of_mem _ h, k⟩
theorem px_append (a b : List S1) (y x : Int) : Px (a ++ b) y x ↔ Px a y x ∨ Px b y x := by
 induction a with
 | nil => simp [px_nil]
 | cons r a ih => rw [List.cons_append, px_cons, px_cons, ih, or_assoc]
theorem px_one (r : S1) (y x : Int) : Px [r] y x ↔ In1 r y x := by
 rw [px_cons]; simp [px_nil]
theorem can_tail {r : S1} {l : List S1} (h : Can (r :: l)) : Can l :=
 ⟨(List.pairwise_cons.1 h.1).2, fun s hs => h.2 s (List.mem_cons_of_mem _ hs)⟩
theorem can_head {r : S1} {l : List S1} (h : Can (r :: l)) : r.c1 < r.c2 ∧ ∀ s, s ∈ l → lt1 r s :=
 ⟨h.2 r (List.mem_cons_self ..), (List.pairwise_cons.1 h.1).1⟩
/-- the first pixel -/
theorem first_le {r s : S1} {b : List S1} (hs : Can (s :: b)) (h : Px (s :: b) r.c0 r.c1) : s.c0 < r.c0 ∨ (s.c0 = r.c0 ∧ s.c1 ≤ r.c1) := by
 obtain ⟨h1, h2⟩ := can_head hs
 rcases (px_cons ..).1 h with ⟨e0, e1, e2⟩ | ⟨t, ht, e0, e1, e2⟩
 ·exact .inr ⟨e0, e1⟩
 ·rcases h2 t ht with q | ⟨q, q'⟩
  ·exact .inl (by omega)
  ·exact .inr ⟨by omega, by omega⟩
theorem end_le {r s : S1} {a : List S1} (hr : Can (r :: a)) (e0 : r.c0 = s.c0) (e1 : r.c1 = s.c1) (h : ∀ y x, In1 s y x → Px (r :: a) y x) : s.c2 ≤ r.c2 := by
 obtain ⟨h1, h2⟩ := can_head hr
 by_cases c : r.c2 < s.c2
 ·rcases (px_cons ..).1 (h s.c0 r.c2 ⟨rfl, by omega, c⟩) with ⟨_, _, q⟩ | ⟨t, ht, q0, q1, q2⟩
  ·omega
  ·rcases h2 t ht with p | ⟨p, p'⟩ <;> omega
 ·omega
theorem tail_px {r : S1} {l : List S1} (h : Can (r :: l)) (y x : Int) : Px l y x ↔ Px (r :: l) y x ∧ ¬ In1 r y x := by
 obtain ⟨h1, h2⟩ := can_head h
 rw [px_cons]
 constructor
 ·rintro ⟨t, ht, q0, q1, q2⟩
  refine ⟨.inr ⟨t, ht, q0, q1, q2⟩, fun ⟨k0, k1, k2⟩ => ?_⟩
  rcases h2 t ht with p | ⟨p, p'⟩ <;> omega
 ·rintro ⟨q | q, k⟩
  ·exact absurd q k
  ·exact q
/-- runs in order are known by their pixels -/
theorem can_unique : ∀ (a b : List S1), Can a → Can b → (∀ y x, Px a y x ↔ Px b y x) → a = b
 | [], [], _, _, _ => rfl
 | [], s :: b, _, hb, h => by
  have := (can_head hb).1
  exact absurd ((h s.c0 s.c1).2 ((px_cons ..).2 (.inl ⟨rfl, by omega, by omega⟩))) (px_nil _ _)
 | r :: a, [], ha, _, h => by
  have := (can_head ha).1
  exact absurd ((h r.c0 r.c1).1 ((px_cons ..).2 (.inl ⟨rfl, by omega, by omega⟩))) (px_nil _ _)
 | r :: a, s :: b, ha, hb, h => by
  have hr := (can_head ha).1
  have hs := (can_head hb).1
  have p1 := first_le (r := r) hb ((h _ _).1 ((px_cons ..).2 (.inl ⟨rfl, by omega, by omega⟩)))
  have p2 := first_le (r := s) ha ((h _ _).2 ((px_cons ..).2 (.inl ⟨rfl, by omega, by omega⟩)))
  have e0 : r.c0 = s.c0 := by omega
  have e1 : r.c1 = s.c1 := by omega
  have q1 := end_le (s := s) ha e0 e1 (fun y x k => (h y x).2 ((px_cons ..).2 (.inl k)))
  have q2 := end_le (s := r) hb e0.symm e1.symm (fun y x k => (h y x).1 ((px_cons ..).2 (.inl k)))
  have e : r = s := by
   have e2 : r.c2 = s.c2 := by omega
   cases r; cases s; simp only [] at e0 e1 e2; rw [e0, e1, e2]
  subst e
  rw [can_unique a b (can_tail ha) (can_tail hb) (fun y x => by rw [tail_px ha, tail_px hb, h y x])]
theorem can_append_one {l : List S1} {r : S1} (h : Can l) (hr : r.c1 < r.c2) (hl : ∀ s, s ∈ l → lt1 s r) : Can (l ++ [r]) := by
 refine ⟨List.pairwise_append.2 ⟨h.1, by simp, fun s hs t ht => ?_⟩, fun s hs => ?_⟩
 ·rw [List.mem_singleton.1 ht]; exact hl s hs
 ·rcases List.mem_append.1 hs with hs | hs
  ·exact h.2 s hs
  ·rw [List.mem_singleton.1 hs]; exact hr
theorem can_prefix {l : List S1} {r : S1} (h : Can (l ++ [r])) : Can l ∧ r.c1 < r.c2 ∧ ∀ s, s ∈ l → lt1 s r := by
 obtain ⟨h1, h2⟩ := h
 obtain ⟨k1, k2, k3⟩ := List.pairwise_append.1 h1
 exact ⟨⟨k1, fun s hs => h2 s (List.mem_append.2 (.inl hs))⟩, h2 r (List.mem_append.2 (.inr (List.mem_singleton.2 rfl))), fun s hs => k3 s hs r (List.mem_singleton.2 rfl)⟩
/-- all runs begin ahead of a place, or there -/
def Bd (l : List S1) (y f : Int) : Prop := ∀ r, r ∈ l → r.c0 < y ∨ (r.c0 = y ∧ r.c1 ≤ f)
theorem bd_mono {l : List S1} {y f y' f' : Int} (h : Bd l y f) (q : y < y' ∨ (y = y' ∧ f ≤ f')) : Bd l y' f' := fun r hr => by
 rcases h r hr with k | k <;> omega
theorem bd_nil (y f : Int) : Bd [] y f := fun _ h => by cases h
/-- mask.span -/
def spanR (l : List S1) (y f t : Int) : List S1 :=
 if t ≤ f then l else if 0 < (l.length : Int) then (if (rdn l (l.length - 1)).c0 = y then (if f ≤ (rdn l (l.length - 1)).c2 then
  l.set (l.length - 1) ⟨(rdn l (l.length - 1)).c0, (rdn l (l.length - 1)).c1, if (rdn l (l.length - 1)).c2 > t then (rdn l (l.length - 1)).c2 else t⟩
  else l ++ [⟨y, f, t⟩]) else l ++ [⟨y, f, t⟩]) else l ++ [⟨y, f, t⟩]
theorem span_code {α : Type} (K : List S1 → Option α) (l : List S1) (y f t : Int) (hl : l.length < 1000000000) :
  (if t ≤ f then K l else (if 0 < (l.length : Int) then (if (0 : Int) ≤ (IntKind.i64.wrap ((l.length : Int) - 1)) ∧ (IntKind.i64.wrap ((l.length : Int) - 1)) < (l.length : Int) then (if (Int.toNat (IntKind.i64.wrap ((l.length : Int) - 1))) < l.length then (if ((rdn l (Int.toNat (IntKind.i64.wrap ((l.length : Int) - 1)))).c0) = y then (if (0 : Int) ≤ (IntKind.i64.wrap ((l.length : Int) - 1)) ∧ (IntKind.i64.wrap ((l.length : Int) - 1)) < (l.length : Int) then (if (Int.toNat (IntKind.i64.wrap ((l.length : Int) - 1))) < l.length then (if f ≤ ((rdn l (Int.toNat (IntKind.i64.wrap ((l.length : Int) - 1)))).c2) then (if (0 : Int) ≤ (IntKind.i64.wrap ((l.length : Int) - 1)) ∧ (IntKind.i64.wrap ((l.length : Int) - 1)) < (l.length : Int) then (if (Int.toNat (IntKind.i64.wrap ((l.length : Int) - 1))) < l.length then (if (0 : Int) ≤ (IntKind.i64.wrap ((l.length : Int) - 1)) ∧ (IntKind.i64.wrap ((l.length : Int) - 1)) < (l.length : Int) then (if (Int.toNat (IntKind.i64.wrap ((l.length : Int) - 1))) < l.length then
   (K (List.set l (Int.toNat (IntKind.i64.wrap ((l.length : Int) - 1))) (⟨(rdn l (Int.toNat (IntKind.i64.wrap ((l.length : Int) - 1)))).c0, (rdn l (Int.toNat (IntKind.i64.wrap ((l.length : Int) - 1)))).c1, if ((rdn l (Int.toNat (IntKind.i64.wrap ((l.length : Int) - 1)))).c2) > t then ((rdn l (Int.toNat (IntKind.i64.wrap ((l.length : Int) - 1)))).c2) else t⟩ : S1))) else none) else none) else none) else none) else (if l.length + 1 ≤ 5864062014805 then (K (l ++ ([(⟨y, f, t⟩ : S1)] : List S1))) else none)) else none) else none) else (if l.length + 1 ≤ 5864062014805 then (K (l ++ ([(⟨y, f, t⟩ : S1)] : List S1))) else none)) else none) else none) else (if l.length + 1 ≤ 5864062014805 then (K (l ++ ([(⟨y, f, t⟩ : S1)] : List S1))) else none))) = K (spanR l y f t) := by
 have h1 : l.length + 1 ≤ 5864062014805 := by omega
 unfold spanR
 by_cases c : t ≤ f
 ·rw [if_pos c, if_pos c]
 rw [if_neg c, if_neg c]
 by_cases c2 : 0 < (l.length : Int)
 ·have e : IntKind.i64.wrap ((l.length : Int) - 1) = ((l.length - 1 : Nat) : Int) := by rw [wrap_i64 (by omega) (by omega)]; omega
  have g1 : (0 : Int) ≤ ((l.length - 1 : Nat) : Int) ∧ ((l.length - 1 : Nat) : Int) < (l.length : Int) := by omega
  have g2 : l.length - 1 < l.length := by omega
  simp only [e, if_pos c2, g1, Int.toNat_natCast, g2, h1, and_self, if_true]
  repeat' split
  all_goals first | rfl | (exfalso; omega)
 ·simp only [if_neg c2, h1, if_true]
theorem rdn_last (p : List S1) (r : S1) : rdn (p ++ [r]) ((p ++ [r]).length - 1) = r := by
 unfold rdn; simp
theorem set_last (p : List S1) (r s : S1) : (p ++ [r]).set ((p ++ [r]).length - 1) s = p ++ [s] := by
 simp
theorem span_ok (l : List S1) (y f t : Int) (h : Can l) (hb : Bd l y f) :
  Can (spanR l y f t) ∧ Bd (spanR l y f t) y f ∧ (∀ Y X, Px (spanR l y f t) Y X ↔ Px l Y X ∨ (Y = y ∧ f ≤ X ∧ X < t)) ∧ (spanR l y f t).length ≤ l.length + 1 := by
 by_cases c : t ≤ f
 ·unfold spanR
  rw [if_pos c]
  exact ⟨h, hb, fun Y X => ⟨.inl, fun q => q.elim id (fun q => by omega)⟩, by omega⟩
 have A : (∀ s, s ∈ l → lt1 s ⟨y, f, t⟩) → Can (l ++ [⟨y, f, t⟩]) ∧ Bd (l ++ [⟨y, f, t⟩]) y f ∧ (∀ Y X, Px (l ++ [⟨y, f, t⟩]) Y X ↔ Px l Y X ∨ (Y = y ∧ f ≤ X ∧ X < t)) ∧ (l ++ [(⟨y, f, t⟩ : S1)]).length ≤ l.length + 1 := fun q => by
  refine ⟨can_append_one h (by simp only []; omega) q, fun r hr => ?_, fun Y X => ?_, by simp⟩
  ·rcases List.mem_append.1 hr with hr | hr
   ·exact hb r hr
   ·rw [List.mem_singleton.1 hr]; exact .inr ⟨rfl, Int.le_refl _⟩
  ·rw [px_append, px_one]; unfold In1; simp only [eq_comm]
 unfold spanR
 rw [if_neg c]
 rcases List.eq_nil_or_concat l with rfl | ⟨p, r, rfl⟩
 ·rw [if_neg (by simp)]; exact A (fun _ h => by cases h)
 rw [List.concat_eq_append] at *
 obtain ⟨hp, hr, hpr⟩ := can_prefix h
 have hrb := hb r (by simp)
 rw [if_pos (by simp), rdn_last, set_last]
 by_cases c1 : r.c0 = y
 ·rw [if_pos c1]
  by_cases c2 : f ≤ r.c2
  ·rw [if_pos c2]
   have hm : r.c2 ≤ (if r.c2 > t then r.c2 else t) ∧ t ≤ (if r.c2 > t then r.c2 else t) ∧ ((if r.c2 > t then r.c2 else t) = r.c2 ∨ (if r.c2 > t then r.c2 else t) = t) := by split <;> omega
   revert hm
   generalize (if r.c2 > t then r.c2 else t) = m
   intro hm
   refine ⟨can_append_one hp (by simp only []; omega) (fun s hs => ?_), fun s hs => ?_, fun Y X => ?_, by simp⟩
   ·rcases hpr s hs with k | k
    ·exact .inl k
    ·exact .inr k
   ·rcases List.mem_append.1 hs with hs | hs
    ·exact hb s (List.mem_append.2 (.inl hs))
    ·rw [List.mem_singleton.1 hs]
     simp only []; omega
   ·rw [px_append, px_append, px_one, px_one, or_assoc]
    unfold In1
    simp only []
    have : (r.c0 = Y ∧ r.c1 ≤ X ∧ X < m) ↔ (r.c0 = Y ∧ r.c1 ≤ X ∧ X < r.c2) ∨ (Y = y ∧ f ≤ X ∧ X < t) := by omega
    rw [this]
  ·rw [if_neg c2]
   refine A (fun s hs => ?_)
   rcases List.mem_append.1 hs with hs | hs
   ·rcases hpr s hs with k | k
    ·exact .inl (by simp only []; omega)
    ·exact .inr (by simp only []; omega)
   ·rw [List.mem_singleton.1 hs]; exact .inr (by simp only []; omega)
 ·rw [if_neg c1]
  refine A (fun s hs => ?_)
  rcases List.mem_append.1 hs with hs | hs
  ·rcases hpr s hs with k | k
   ·exact .inl (by simp only []; omega)
   ·exact .inl (by simp only []; omega)
  ·rw [List.mem_singleton.1 hs]; exact .inl (by simp only []; omega)
end Go.Av
end
