/- the plain law, part 4 -/
import Derived.Test.YtjmhdecofadfnaaGreatP3
set_option autoImplicit false
set_option linter.unusedSimpArgs false
set_option linter.unusedVariables false
set_option linter.unnecessarySimpa false
section
namespace Go.Av
theorem lt1_trans {a b c : S1} (h : lt1 a b) (hb : b.c1 < b.c2) (h2 : lt1 b c) : lt1 a c := by
 unfold lt1 at *; omega
def Bn (m : S5) (r : S1) : Prop := 0 ≤ r.c0 ∧ r.c0 < m.c1 ∧ 0 ≤ r.c1 ∧ r.c2 ≤ m.c0
/-- the runs of a valid mask -/
def Vr (m : S5) : Prop := Can m.c2 ∧ ∀ r, r ∈ m.c2 → Bn m r
def Gd (w h : Int) : Prop := 0 ≤ w ∧ w ≤ 4096 ∧ 0 ≤ h ∧ h ≤ 4096
def Vm (m : S5) : Prop := Gd m.c0 m.c1 ∧ Vr m
theorem take_succ_rd (l : List S1) (i : Nat) (h : i < l.length) : l.take (i + 1) = l.take i ++ [rd l (i : Int)] := by
 rw [List.take_succ_eq_append_getElem h, rd_nat l i h]
theorem l17_vm (n : Nat) (m : S5) (hl : m.c2.length ≤ 1000000000) : ∀ (k i : Nat), m.c2.length - i < k → i ≤ m.c2.length → Can (m.c2.take i) → (∀ r, r ∈ m.c2.take i → Bn m r) →
  ∃ v, l17_0 n m k (i : Int) = some v ∧ (v = 0 ∨ v = 1) ∧ (v = 0 ↔ Vr m)
 | 0, _, h, _, _, _ => by omega
 | k + 1, i, hk, hi, hc, hb => by
  unfold l17_0
  by_cases c : i < m.c2.length
  ·have hm := mem_rd m.c2 i c
   have F : ¬ Vr m → ∃ v, (some 1 : Option Int) = some v ∧ (v = 0 ∨ v = 1) ∧ (v = 0 ↔ Vr m) := fun h => ⟨1, rfl, .inr rfl, ⟨fun h => by omega, fun q => absurd q h⟩⟩
   have IH := fun (q : Can (m.c2.take (i + 1))) (q2 : Bn m (rd m.c2 (i : Int))) => l17_vm n m hl k (i + 1) (by omega) (by omega) q (fun r hr => by
    rw [take_succ_rd m.c2 i c] at hr
    rcases List.mem_append.1 hr with hr | hr
    ·exact hb r hr
    ·rw [List.mem_singleton.1 hr]; exact q2)
   have B : Vr m → Bn m (rd m.c2 (i : Int)) := fun h => h.2 _ hm
   have T : Vr m → (rd m.c2 (i : Int)).c1 < (rd m.c2 (i : Int)).c2 := fun h => h.1.2 _ hm
   rw [if_pos (by omega), if_pos (by omega), wsucc i (by omega)]
   by_cases q1 : (rd m.c2 (i : Int)).c0 < 0
   ·rw [if_pos q1]; exact F (fun h => by have := (B h).1; omega)
   rw [if_neg q1]
   by_cases q2 : m.c1 ≤ (rd m.c2 (i : Int)).c0
   ·rw [if_pos q2]; exact F (fun h => by have := (B h).2.1; omega)
   rw [if_neg q2]
   by_cases q3 : (rd m.c2 (i : Int)).c1 < 0
   ·rw [if_pos q3]; exact F (fun h => by have := (B h).2.2.1; omega)
   rw [if_neg q3]
   by_cases q4 : (rd m.c2 (i : Int)).c2 ≤ (rd m.c2 (i : Int)).c1
   ·rw [if_pos q4]; exact F (fun h => by have := T h; omega)
   rw [if_neg q4]
   by_cases q5 : m.c0 < (rd m.c2 (i : Int)).c2
   ·rw [if_pos q5]; exact F (fun h => by have := (B h).2.2.2; omega)
   rw [if_neg q5]
   have hbn : Bn m (rd m.c2 (i : Int)) := ⟨by omega, by omega, by omega, by omega⟩
   by_cases z : 0 < i
   ·have e0 : m.c2.take i = m.c2.take (i - 1) ++ [rd m.c2 ((i - 1 : Nat) : Int)] := by
     have := take_succ_rd m.c2 (i - 1) (by omega)
     rwa [show i - 1 + 1 = i by omega] at this
    have hlt : Vr m → lt1 (rd m.c2 ((i - 1 : Nat) : Int)) (rd m.c2 (i : Int)) := fun h => by
     have := List.pairwise_iff_getElem.1 h.1.1 (i - 1) i (by omega) c (by omega)
     rw [rd_nat m.c2 (i - 1) (by omega), rd_nat m.c2 i c]; exact this
    have G : lt1 (rd m.c2 ((i - 1 : Nat) : Int)) (rd m.c2 (i : Int)) → Can (m.c2.take (i + 1)) := fun h => by
     rw [take_succ_rd m.c2 i c]
     refine can_append_one hc (by omega) (fun s hs => ?_)
     rw [e0] at hs hc
     obtain ⟨_, k1, k2⟩ := can_prefix hc
     rcases List.mem_append.1 hs with hs | hs
     ·exact lt1_trans (k2 s hs) k1 h
     ·rw [List.mem_singleton.1 hs]; exact h
    rw [if_pos (by omega), wpred i (by omega) (by omega), if_pos (by omega)]
    simp only [show (0 : Int) ≤ ((i - 1 : Nat) : Int) ∧ ((i - 1 : Nat) : Int) < (m.c2.length : Int) by omega, and_self, if_true]
    by_cases q6 : (rd m.c2 (i : Int)).c0 < (rd m.c2 ((i - 1 : Nat) : Int)).c0
    ·rw [if_pos q6]; exact F (fun h => by have := hlt h; unfold lt1 at this; omega)
    rw [if_neg q6]
    by_cases q7 : (rd m.c2 ((i - 1 : Nat) : Int)).c0 = (rd m.c2 (i : Int)).c0
    ·rw [if_pos q7]
     by_cases q8 : (rd m.c2 (i : Int)).c1 ≤ (rd m.c2 ((i - 1 : Nat) : Int)).c2
     ·rw [if_pos q8]; exact F (fun h => by have := hlt h; unfold lt1 at this; omega)
     ·rw [if_neg q8]; exact IH (G (.inr ⟨q7, by omega⟩)) hbn
    ·rw [if_neg q7]; exact IH (G (.inl (by omega))) hbn
   ·have : i = 0 := by omega
    subst this
    rw [if_neg (by omega)]
    refine IH ?_ hbn
    rw [take_succ_rd m.c2 0 c]
    exact can_append_one hc (by omega) (fun s hs => by simp at hs)
  ·rw [List.take_of_length_le (by omega)] at hc hb
   rw [if_neg (by omega)]
   exact ⟨0, rfl, .inl rfl, ⟨fun _ => ⟨hc, hb⟩, fun _ => rfl⟩⟩
theorem g46_gd (n : Nat) (w h : Int) : ∃ b, g46 n w h = some b ∧ (b = true ↔ Gd w h) := by
 unfold g46 Gd
 repeat' split
 all_goals exact ⟨_, rfl, by simp; omega⟩
theorem g55_gd (n : Nat) (w h : Int) : ∃ b, g55 n w h = some b ∧ (b = true ↔ Gd w h) := g46_gd n w h
theorem g17_vm (n : Nat) (m : S5) (hl : m.c2.length ≤ 1000000000) (hn : m.c2.length < n) : ∃ v, g16 n m = some v ∧ g17 n m = some v ∧ (v = 0 ∨ v = 1) ∧ (v = 0 ↔ Vm m) := by
 obtain ⟨b, e, hb⟩ := g46_gd n m.c0 m.c1
 obtain ⟨v, e2, h01, hv⟩ := l17_vm n m hl n 0 (by omega) (by omega) ⟨List.Pairwise.nil, by simp⟩ (by simp)
 obtain ⟨v', e3, e4⟩ := l16_17 n m hl n 0 (-1) 0 0 (by omega) (by omega) (fun _ => rfl) (by omega)
 have : v' = v := by rw [e4] at e2; injection e2
 subst this
 unfold g16 g17
 rw [show g55 n m.c0 m.c1 = some b from e, e, Option.bind_some]
 by_cases c : b = true
 ·rw [if_pos c, Option.bind_some, if_pos c]
  exact ⟨v', e3, e2, h01, hv.trans ⟨fun h => ⟨hb.1 c, h⟩, fun h => h.2⟩⟩
 ·rw [if_neg c, Option.bind_some, if_neg c]
  exact ⟨1, rfl, rfl, .inr rfl, ⟨fun h => by omega, fun h => absurd (hb.2 h.1) c⟩⟩
end Go.Av
end
