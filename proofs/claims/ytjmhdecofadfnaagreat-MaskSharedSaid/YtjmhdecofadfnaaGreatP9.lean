/- the plain law, part 9 -/
import Derived.Test.YtjmhdecofadfnaaGreatP8
set_option autoImplicit false
set_option linter.unusedSimpArgs false
set_option linter.unusedVariables false
set_option linter.unnecessarySimpa false
section
namespace Go.Av
/-- the columns at which runs begin or end -/
def Es (p : List S1) : List Int := p.flatMap fun r => [r.c1, r.c2]
theorem es_len (p : List S1) : (Es p).length = 2 * p.length := by
 induction p with
 | nil => rfl
 | cons r p ih => rw [show Es (r :: p) = [r.c1, r.c2] ++ Es p from rfl, List.length_append, ih]; simp; omega
theorem es_mem {p : List S1} {e : Int} : e ∈ Es p ↔ ∃ r, r ∈ p ∧ (e = r.c1 ∨ e = r.c2) := by unfold Es; simp [List.mem_flatMap]
theorem l140_1_ok (n : Nat) (R : Int → List Int → Option (List Int)) (a0 : List (List S1)) (x : Nat) (hx : x < 1000) (hl : (rd a0 (x : Int)).length ≤ 20000) : ∀ (k i : Nat) (acc : List Int), (rd a0 (x : Int)).length - i < k → i ≤ (rd a0 (x : Int)).length → acc.length + 2 * ((rd a0 (x : Int)).length - i) ≤ 1000000 →
  l140_1 n R a0 (x : Int) k (i : Int) acc = R ((x + 1 : Nat) : Int) (acc ++ Es ((rd a0 (x : Int)).drop i))
 | 0, _, _, h, _, _ => by omega
 | k + 1, i, acc, hk, hi, ha => by
  unfold l140_1
  by_cases c : i < (rd a0 (x : Int)).length
  ·rw [if_pos (by omega), if_pos (by omega), if_pos (by omega), wsucc i (by omega), l140_1_ok n R a0 x hx hl k (i + 1) _ (by omega) (by omega) (by simp; omega), drop_rd _ i c, List.append_assoc]
   rfl
  ·rw [if_neg (by omega), wsucc x (by omega), List.drop_eq_nil_of_le (by omega)]
   rw [show Es [] = [] from rfl, List.append_nil]
theorem ends_ok (n : Nat) (p q : List S1) (hp : p.length ≤ 20000) (hq : q.length ≤ 20000) (hn : 30000 ≤ n) : g140 n [p, q] = some (List.mergeSort (Es p ++ Es q) (fun x y => decide (x ≤ y))) := by
 obtain ⟨k, rfl⟩ : ∃ k, n = k + 3 := ⟨n - 3, by omega⟩
 have e0 : rd [p, q] ((0 : Nat) : Int) = p := rfl
 have e1 : rd [p, q] ((1 : Nat) : Int) = q := rfl
 unfold g140
 unfold l140_0
 rw [if_pos (by simp), if_pos (by simp)]
 refine (l140_1_ok (k + 3) _ [p, q] 0 (by omega) (by rw [e0]; omega) (k + 3) 0 [] (by rw [e0]; omega) (by omega) (by rw [e0]; simp; omega)).trans ?_
 rw [e0]
 unfold l140_0
 rw [if_pos (by simp), if_pos (by simp)]
 refine (l140_1_ok (k + 3) _ [p, q] 1 (by omega) (by rw [e1]; omega) (k + 3) 0 _ (by rw [e1]; omega) (by omega) (by rw [e1]; simp [es_len]; omega)).trans ?_
 rw [e1]
 unfold l140_0
 have h1 := es_len p
 have h2 := es_len q
 rw [if_neg (by simp), if_pos (by simp; omega)]
 simp
/-- sorted ends -/
structure Se (p q : List S1) (es : List Int) : Prop where
 srt : ∀ i j : Nat, i ≤ j → j < es.length → rd es (i : Int) ≤ rd es (j : Int)
 mem : ∀ r, r ∈ p ∨ r ∈ q → (∃ j : Nat, j < es.length ∧ rd es (j : Int) = r.c1) ∧ (∃ j : Nat, j < es.length ∧ rd es (j : Int) = r.c2)
 rng : ∀ j : Nat, j < es.length → 0 ≤ rd es (j : Int) ∧ rd es (j : Int) ≤ 4096
 len : es.length = 2 * (p.length + q.length)
theorem se_ok (p q : List S1) (hp : Row p) (hq : Row q) : Se p q (List.mergeSort (Es p ++ Es q) (fun x y => decide (x ≤ y))) := by
 have hs := List.pairwise_mergeSort (le := fun x y : Int => decide (x ≤ y)) (fun a b c h1 h2 => by simp only [decide_eq_true_eq] at *; omega) (fun a b => by simp only [Bool.or_eq_true, decide_eq_true_eq]; omega) (Es p ++ Es q)
 have hm : ∀ e, e ∈ List.mergeSort (Es p ++ Es q) (fun x y => decide (x ≤ y)) ↔ e ∈ Es p ++ Es q := fun e => List.mem_mergeSort
 have hl : (List.mergeSort (Es p ++ Es q) (fun x y => decide (x ≤ y))).length = 2 * (p.length + q.length) := by rw [List.length_mergeSort, List.length_append, es_len, es_len]; omega
 generalize List.mergeSort (Es p ++ Es q) (fun x y => decide (x ≤ y)) = es at *
 have at_ : ∀ e, e ∈ es → ∃ j : Nat, j < es.length ∧ rd es (j : Int) = e := fun e he => by
  obtain ⟨j, hj, rfl⟩ := List.getElem_of_mem he
  exact ⟨j, hj, rd_nat es j hj⟩
 refine ⟨fun i j hij hj => ?_, fun r hr => ⟨at_ _ ((hm _).2 ?_), at_ _ ((hm _).2 ?_)⟩, fun j hj => ?_, hl⟩
 ·by_cases c : i = j
  ·rw [c]; omega
  ·have := List.pairwise_iff_getElem.1 hs i j (by omega) hj (by omega)
   rw [rd_nat es i (by omega), rd_nat es j hj]
   simpa using this
 ·rcases hr with hr | hr
  ·exact List.mem_append.2 (.inl (es_mem.2 ⟨r, hr, .inl rfl⟩))
  ·exact List.mem_append.2 (.inr (es_mem.2 ⟨r, hr, .inl rfl⟩))
 ·rcases hr with hr | hr
  ·exact List.mem_append.2 (.inl (es_mem.2 ⟨r, hr, .inr rfl⟩))
  ·exact List.mem_append.2 (.inr (es_mem.2 ⟨r, hr, .inr rfl⟩))
 ·have hj' := (hm _).1 (mem_rd es j hj)
  rcases List.mem_append.1 hj' with h | h
  ·obtain ⟨r, hr, e⟩ := es_mem.1 h
   obtain ⟨a1, a2, a3⟩ := hp.2 r hr
   omega
  ·obtain ⟨r, hr, e⟩ := es_mem.1 h
   obtain ⟨a1, a2, a3⟩ := hq.2 r hr
   omega
/-- between two neighbouring ends nothing changes -/
theorem inX_const {p q : List S1} {es : List Int} (h : Se p q es) {i : Nat} (h1 : 1 ≤ i) (hi : i < es.length) {X : Int} (x1 : rd es ((i - 1 : Nat) : Int) ≤ X) (x2 : X < rd es (i : Int)) : (InX p X ↔ InX p (rd es ((i - 1 : Nat) : Int))) ∧ (InX q X ↔ InX q (rd es ((i - 1 : Nat) : Int))) := by
 have key : ∀ j : Nat, j < es.length → rd es (j : Int) ≤ rd es ((i - 1 : Nat) : Int) ∨ X < rd es (j : Int) := fun j hj => by
  by_cases c : j ≤ i - 1
  ·exact .inl (h.srt j (i - 1) c (by omega))
  ·have := h.srt i j (by omega) hj
   exact .inr (by omega)
 have one : ∀ r, r ∈ p ∨ r ∈ q → ((r.c1 ≤ X ∧ X < r.c2) ↔ (r.c1 ≤ rd es ((i - 1 : Nat) : Int) ∧ rd es ((i - 1 : Nat) : Int) < r.c2)) := fun r hr => by
  obtain ⟨⟨j1, q1, e1⟩, ⟨j2, q2, e2⟩⟩ := h.mem r hr
  have k1 := key j1 q1
  have k2 := key j2 q2
  rw [e1] at k1
  rw [e2] at k2
  omega
 constructor
 ·constructor
  ·rintro ⟨r, hr, k⟩; exact ⟨r, hr, (one r (.inl hr)).1 k⟩
  ·rintro ⟨r, hr, k⟩; exact ⟨r, hr, (one r (.inl hr)).2 k⟩
 ·constructor
  ·rintro ⟨r, hr, k⟩; exact ⟨r, hr, (one r (.inr hr)).1 k⟩
  ·rintro ⟨r, hr, k⟩; exact ⟨r, hr, (one r (.inr hr)).2 k⟩
theorem inX_rng {p q : List S1} {es : List Int} (h : Se p q es) {X : Int} (hx : InX p X ∨ InX q X) : 0 < es.length ∧ rd es ((0 : Nat) : Int) ≤ X ∧ X < rd es ((es.length - 1 : Nat) : Int) := by
 obtain ⟨r, hr, r1, r2⟩ : ∃ r, (r ∈ p ∨ r ∈ q) ∧ r.c1 ≤ X ∧ X < r.c2 := by
  rcases hx with ⟨r, hr, k⟩ | ⟨r, hr, k⟩
  ·exact ⟨r, .inl hr, k⟩
  ·exact ⟨r, .inr hr, k⟩
 obtain ⟨⟨j1, q1, e1⟩, ⟨j2, q2, e2⟩⟩ := h.mem r hr
 have s1 := h.srt 0 j1 (by omega) q1
 have s2 := h.srt j2 (es.length - 1) (by omega) (by omega)
 exact ⟨by omega, by omega, by omega⟩
/-- what is kept: of one of two, of both, of the first alone -/
def KP : Nat → Prop → Prop → Prop
 | 0, P, Q => P ∨ Q
 | 1, P, Q => P ∧ Q
 | _, P, Q => P ∧ ¬ Q
theorem kp_congr (i : Nat) {P P' Q Q' : Prop} (h1 : P ↔ P') (h2 : Q ↔ Q') : KP i P Q ↔ KP i P' Q' := by rw [h1, h2]
theorem kp_any (i : Nat) {P Q : Prop} (h : KP i P Q) : P ∨ Q := by
 match i, h with
 | 0, h => exact h
 | 1, h => exact .inl h.1
 | _ + 2, h => exact .inl h.1
theorem keep0 (n : Nat) (a b : Bool) : ∃ v, g95 n a b = some v ∧ (v = true ↔ KP 0 (a = true) (b = true)) := by cases a <;> cases b <;> exact ⟨_, rfl, by simp [KP]⟩
theorem keep1 (n : Nat) (a b : Bool) : ∃ v, g96 n a b = some v ∧ (v = true ↔ KP 1 (a = true) (b = true)) := by cases a <;> cases b <;> exact ⟨_, rfl, by simp [KP]⟩
end Go.Av
end
