/- the plain law, part 8 -/
import Derived.Test.YtjmhdecofadfnaaGreatP7
set_option autoImplicit false
set_option linter.unusedSimpArgs false
set_option linter.unusedVariables false
set_option linter.unnecessarySimpa false
section
namespace Go.Av
/-- the runs of a row -/
def rowF (l : List S1) (y : Int) : List S1 := l.filter fun r => decide (r.c0 = y)
theorem mem_rowF {l : List S1} {y : Int} {r : S1} : r ∈ rowF l y ↔ r ∈ l ∧ r.c0 = y := by unfold rowF; simp [List.mem_filter]
theorem px_rowF (l : List S1) (y X : Int) : Px (rowF l y) y X ↔ Px l y X := by
 constructor
 ·rintro ⟨r, h, k⟩; exact ⟨r, (mem_rowF.1 h).1, k⟩
 ·rintro ⟨r, h, k⟩; exact ⟨r, mem_rowF.2 ⟨h, k.1⟩, k⟩
theorem can_rowF {l : List S1} (h : Can l) (y : Int) : Can (rowF l y) := ⟨h.1.sublist List.filter_sublist, fun r hr => h.2 r (mem_rowF.1 hr).1⟩
theorem rowF_append (l l' : List S1) (y : Int) : rowF (l ++ l') y = rowF l y ++ rowF l' y := List.filter_append ..
theorem rowF_len (l : List S1) (y : Int) : (rowF l y).length ≤ l.length := List.length_filter_le ..
theorem l99_ok (n : Nat) (m : S5) (H : Nat) (hH : m.c1 = (H : Int)) (hl : m.c2.length ≤ 1000000000) (hb : ∀ r, r ∈ m.c2 → Bn m r) : ∀ (k i : Nat) (o : List (List S1)), m.c2.length - i < k → i ≤ m.c2.length → o.length = H → (∀ y : Nat, y < H → rd o (y : Int) = rowF (m.c2.take i) (y : Int)) →
  ∃ o', l99_0 n m k (i : Int) o = some o' ∧ o'.length = H ∧ ∀ y : Nat, y < H → rd o' (y : Int) = rowF m.c2 (y : Int)
 | 0, _, _, h, _, _, _ => by omega
 | k + 1, i, o, hk, hi, ho, hI => by
  unfold l99_0
  by_cases c : i < m.c2.length
  ·have hr := hb _ (mem_rd m.c2 i c)
   obtain ⟨r0, r1, r2, r3⟩ := hr
   obtain ⟨y, ey⟩ : ∃ y : Nat, (rd m.c2 (i : Int)).c0 = (y : Int) := ⟨(rd m.c2 (i : Int)).c0.toNat, by omega⟩
   have hy : y < H := by omega
   have hlen := rowF_len (m.c2.take i) (y : Int)
   have hlt : (m.c2.take i).length ≤ m.c2.length := List.length_take_le' ..
   rw [if_pos (by omega), if_pos (by omega), ey, if_pos (by omega), hI y hy, if_pos (by omega), wsucc i (by omega), Int.toNat_natCast]
   refine l99_ok n m H hH hl hb k (i + 1) _ (by omega) (by omega) (by rw [List.length_set]; exact ho) (fun y' hy' => ?_)
   have e : (⟨(y : Int), (rd m.c2 (i : Int)).c1, (rd m.c2 (i : Int)).c2⟩ : S1) = rd m.c2 (i : Int) := by rw [← ey]
   rw [take_succ_rd m.c2 i c, rowF_append, e, rd_nat _ y' (by rw [List.length_set]; omega), List.getElem_set]
   by_cases q : y = y'
   ·subst q
    rw [if_pos rfl]
    congr 1
    unfold rowF; simp [ey]
   ·rw [if_neg q, ← rd_nat o y' (by omega), hI y' hy']
    have : rowF [rd m.c2 (i : Int)] (y' : Int) = [] := by unfold rowF; simp [ey]; omega
    rw [this, List.append_nil]
  ·rw [if_neg (by omega)]
   refine ⟨o, rfl, ho, fun y hy => ?_⟩
   rw [hI y hy, List.take_of_length_le (by omega)]
theorem rows_ok (n : Nat) (m : S5) (H : Nat) (hH : m.c1 = (H : Int)) (h4 : H ≤ 4096) (hl : m.c2.length ≤ 1000000000) (hn : m.c2.length < n) (hb : ∀ r, r ∈ m.c2 → Bn m r) :
  ∃ o, g99 n m = some o ∧ o.length = H ∧ ∀ y : Nat, y < H → rd o (y : Int) = rowF m.c2 (y : Int) := by
 unfold g99
 rw [hH, if_pos (by omega), Int.toNat_natCast]
 refine l99_ok n m H hH hl hb n 0 _ (by omega) (by omega) (by simp) (fun y hy => ?_)
 rw [rd_nat _ y (by simpa using hy)]
 simp [rowF]
/-- the columns of a row's runs -/
def InX (p : List S1) (x : Int) : Prop := ∃ r, r ∈ p ∧ r.c1 ≤ x ∧ x < r.c2
theorem inX_rowF (l : List S1) (y x : Int) : InX (rowF l y) x ↔ Px l y x := by
 rw [← px_rowF]
 unfold InX Px In1
 constructor
 ·rintro ⟨r, h, k⟩; exact ⟨r, h, (mem_rowF.1 h).2, k⟩
 ·rintro ⟨r, h, _, k⟩; exact ⟨r, h, k⟩
/-- the runs of one row lie behind each other -/
def Row (p : List S1) : Prop := p.Pairwise (fun r s => r.c2 < s.c1) ∧ ∀ r, r ∈ p → r.c1 < r.c2 ∧ 0 ≤ r.c1 ∧ r.c2 ≤ 4096
theorem row_rowF {m : S5} (h : Vm m) (y : Int) : Row (rowF m.c2 y) := by
 obtain ⟨⟨g1, g2, g3, g4⟩, hc, hb⟩ := h
 have hc' := can_rowF hc y
 refine ⟨hc'.1.imp_of_mem (fun {r s} hr hs h => ?_), fun r hr => ?_⟩
 ·have e1 := (mem_rowF.1 hr).2
  have e2 := (mem_rowF.1 hs).2
  rcases h with h | ⟨_, h⟩ <;> omega
 ·have hlt := hc'.2 r hr
  obtain ⟨b0, b1, b2, b3⟩ := hb r (mem_rowF.1 hr).1
  omega
theorem mid_ok (a b : Nat) (ha : a < 1000000000) (hb : b < 1000000000) : IntKind.i64.wrap (Int.fdiv (IntKind.u64.wrap (IntKind.i64.wrap ((a : Int) + (b : Int)))) 2) = (((a + b) / 2 : Nat) : Int) := by
 rw [wrap_i64 (x := (a : Int) + (b : Int)) (by omega) (by omega), wrap_u64 (by omega) (by omega), show ((a : Int) + (b : Int)) = ((a + b : Nat) : Int) by omega, show Int.fdiv ((a + b : Nat) : Int) 2 = (((a + b) / 2 : Nat) : Int) by rw [Int.fdiv_eq_ediv_of_nonneg _ (by omega)]; omega, wrap_i64 (by omega) (by omega)]
theorem g174_ok (n : Nat) (r : S1) (t : Int) : ∃ v, g174 n r t = some v ∧ (v < 0 ↔ r.c1 < t) := by
 unfold g174 g103 g145
 simp only [Option.bind_some, Bool.false_eq_true, if_false]
 repeat' split
 all_goals exact ⟨_, rfl, by omega⟩
theorem l173_ok (n : Nat) (p : List S1) (t : Int) (hl : p.length < 1000000000) : ∀ (k a b : Nat), b - a < k → a ≤ b → b ≤ p.length →
  (∀ j : Nat, j < a → (rd p (j : Int)).c1 < t) → (∀ j : Nat, b ≤ j → j < p.length → ¬ (rd p (j : Int)).c1 < t) → (∀ i j : Nat, i < j → j < p.length → (rd p (i : Int)).c1 < (rd p (j : Int)).c1) →
  ∃ (i : Nat) (f : Bool), l173_0_0 n p t k (a : Int) (b : Int) = some ((i : Int), f) ∧ i ≤ p.length ∧ (∀ j : Nat, j < i → (rd p (j : Int)).c1 < t) ∧ (∀ j : Nat, i ≤ j → j < p.length → ¬ (rd p (j : Int)).c1 < t)
 | 0, _, _, h, _, _, _, _, _ => by omega
 | k + 1, a, b, hk, hab, hb, h1, h2, h3 => by
  unfold l173_0_0
  by_cases c : a < b
  ·obtain ⟨v, e, hv⟩ := g174_ok n (rd p (((a + b) / 2 : Nat) : Int)) t
   rw [if_pos (by omega), mid_ok a b (by omega) (by omega), if_pos (by omega), etaS1, e, Option.bind_some]
   by_cases q : v < 0
   ·rw [if_pos q, wsucc ((a + b) / 2) (by omega)]
    refine l173_ok n p t hl k ((a + b) / 2 + 1) b (by omega) (by omega) hb (fun j hj => ?_) h2 h3
    by_cases w : j = (a + b) / 2
    ·rw [w]; exact hv.1 q
    ·have := h3 j ((a + b) / 2) (by omega) (by omega)
     have := hv.1 q
     omega
   ·rw [if_neg q]
    refine l173_ok n p t hl k a ((a + b) / 2) (by omega) (by omega) (by omega) h1 (fun j hj hjl => ?_) h3
    have hq : ¬ (rd p (((a + b) / 2 : Nat) : Int)).c1 < t := fun h => q (hv.2 h)
    by_cases w : j = (a + b) / 2
    ·rw [w]; exact hq
    ·have := h3 ((a + b) / 2) j (by omega) hjl
     omega
  ·have : a = b := by omega
   subst this
   rw [if_neg (by omega)]
   by_cases d : a < p.length
   ·obtain ⟨v, e, hv⟩ := g174_ok n (rd p (a : Int)) t
    rw [if_pos (by omega), if_pos (by omega), etaS1, e, Option.bind_some]
    exact ⟨a, _, rfl, hb, h1, h2⟩
   ·rw [if_neg (by omega)]
    exact ⟨a, _, rfl, hb, h1, h2⟩
theorem row_lt {p : List S1} (h : Row p) (i j : Nat) (hij : i < j) (hj : j < p.length) : (rd p (i : Int)).c2 < (rd p (j : Int)).c1 := by
 rw [rd_nat p i (by omega), rd_nat p j hj]
 exact List.pairwise_iff_getElem.1 h.1 i j (by omega) hj hij
theorem in_ok (n : Nat) (p : List S1) (x : Int) (h : Row p) (hl : p.length < 1000000000) (hn : p.length < n) (hx : -1000000000 < x ∧ x < 1000000000) : ∃ b, g141 n p x = some b ∧ (b = true ↔ InX p x) := by
 have hm : ∀ j : Nat, j < p.length → (rd p (j : Int)) ∈ p := fun j hj => mem_rd p j hj
 obtain ⟨i, f, e, hi, h1, h2⟩ := l173_ok n p (x + 1) hl n 0 p.length (by omega) (by omega) (by omega) (by omega) (by omega) (fun i j hij hj => by
  have := row_lt h i j hij hj
  have := (h.2 _ (hm i (by omega))).1
  omega)
 unfold g141 g173_0
 rw [wrap_i64 (x := x + 1) (by omega) (by omega), show l173_0_0 n p (x + 1) n 0 (p.length : Int) = some ((i : Int), f) from e, Option.bind_some]
 by_cases c : 0 < i
 ·rw [if_pos (by omega), wpred i (by omega) (by omega), if_pos (by omega)]
  refine ⟨_, rfl, ?_⟩
  rw [decide_eq_true_iff]
  constructor
  ·intro q
   exact ⟨_, hm (i - 1) (by omega), by have := h1 (i - 1) (by omega); omega, q⟩
  ·rintro ⟨r, hr, r1, r2⟩
   obtain ⟨j, hj, rfl⟩ := List.getElem_of_mem hr
   rw [← rd_nat p j hj] at r1 r2
   have hji : j < i := by
    by_cases w : j < i
    ·exact w
    ·have := h2 j (by omega) hj; omega
   by_cases w : j = i - 1
   ·rw [← w]; exact r2
   ·have := row_lt h j (i - 1) (by omega) (by omega)
    have := h1 (i - 1) (by omega)
    omega
 ·rw [if_neg (by omega)]
  refine ⟨false, rfl, ?_⟩
  simp only [Bool.false_eq_true, false_iff]
  rintro ⟨r, hr, r1, r2⟩
  obtain ⟨j, hj, rfl⟩ := List.getElem_of_mem hr
  rw [← rd_nat p j hj] at r1 r2
  have := h2 j (by omega) hj
  omega
end Go.Av
end
