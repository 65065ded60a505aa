/- the plain law, part 7 -/
import Derived.Test.YtjmhdecofadfnaaGreatP6
set_option autoImplicit false
set_option linter.unusedSimpArgs false
set_option linter.unusedVariables false
set_option linter.unnecessarySimpa false
section
namespace Go.Av
/-- sums over a grid -/
def sumR (n : Nat) (f : Nat → Nat) : Nat := ((List.range n).map f).sum
theorem sumR_succ (n : Nat) (f : Nat → Nat) : sumR (n + 1) f = sumR n f + f n := by
 unfold sumR; rw [List.range_succ, List.map_append, List.sum_append]; simp
theorem sumR_add (n : Nat) (f g : Nat → Nat) : sumR n (fun i => f i + g i) = sumR n f + sumR n g := by
 induction n with
 | zero => rfl
 | succ n ih => rw [sumR_succ, sumR_succ, sumR_succ, ih]; omega
theorem sumR_congr (n : Nat) {f g : Nat → Nat} (h : ∀ i, i < n → f i = g i) : sumR n f = sumR n g := by
 induction n with
 | zero => rfl
 | succ n ih => rw [sumR_succ, sumR_succ, ih (fun i hi => h i (by omega)), h n (by omega)]
theorem sumR_le (n c : Nat) {f : Nat → Nat} (h : ∀ i, i < n → f i ≤ c) : sumR n f ≤ n * c := by
 induction n with
 | zero => simp [sumR]
 | succ n ih => rw [sumR_succ, Nat.succ_mul]; have := ih (fun i hi => h i (by omega)); have := h n (by omega); omega
theorem sumR_run (f t : Nat) (hft : f ≤ t) : ∀ n, sumR n (fun x => if f ≤ x ∧ x < t then 1 else 0) = min t n - min f n
 | 0 => by simp [sumR]
 | n + 1 => by
  rw [sumR_succ, sumR_run f t hft n]
  split <;> omega
theorem sumR_one (r c : Nat) : ∀ n, sumR n (fun y => if y = r then c else 0) = if r < n then c else 0
 | 0 => by simp [sumR]
 | n + 1 => by
  rw [sumR_succ, sumR_one r c n]
  split <;> split <;> split <;> omega
def sumG (W H : Nat) (f : Nat → Nat → Nat) : Nat := sumR H fun y => sumR W (f y)
theorem sumG_add (W H : Nat) (f g : Nat → Nat → Nat) : sumG W H (fun y x => f y x + g y x) = sumG W H f + sumG W H g := by
 unfold sumG
 rw [← sumR_add]
 exact sumR_congr H fun y _ => sumR_add W _ _
theorem sumG_congr (W H : Nat) {f g : Nat → Nat → Nat} (h : ∀ y x, y < H → x < W → f y x = g y x) : sumG W H f = sumG W H g :=
 sumR_congr H fun y hy => sumR_congr W fun x hx => h y x hy hx
/-- is it one of the pixels -/
def pxb (l : List S1) (y x : Int) : Bool := l.any fun r => decide (r.c0 = y ∧ r.c1 ≤ x ∧ x < r.c2)
theorem pxb_iff (l : List S1) (y x : Int) : pxb l y x = true ↔ Px l y x := by
 unfold pxb Px In1; simp [List.any_eq_true]
/-- the number of pixels in a grid -/
def card (W H : Nat) (l : List S1) : Nat := sumG W H fun y x => (pxb l (y : Int) (x : Int)).toNat
theorem card_le (W H : Nat) (l : List S1) : card W H l ≤ H * W := by
 refine sumR_le H W fun y _ => ?_
 have := sumR_le W 1 (f := fun x => (pxb l (y : Int) (x : Int)).toNat) (fun x _ => Bool.toNat_le _)
 show sumR W (fun x => (pxb l (y : Int) (x : Int)).toNat) ≤ W
 omega
theorem card_nil (W H : Nat) : card W H [] = 0 := by
 have : card W H [] ≤ 0 := by
  refine Nat.le_trans (sumR_le H 0 fun y _ => ?_) (by simp)
  exact Nat.le_trans (sumR_le W 0 fun x _ => by simp [pxb]) (by simp)
 omega
theorem card_run (W H r f t : Nat) (hr : r < H) (hft : f ≤ t) (ht : t ≤ W) : sumG W H (fun y x => if y = r ∧ f ≤ x ∧ x < t then 1 else 0) = t - f := by
 unfold sumG
 rw [sumR_congr H (g := fun y => if y = r then t - f else 0), sumR_one, if_pos hr]
 intro y _
 by_cases c : y = r
 ·rw [if_pos c, sumR_congr W (g := fun x => if f ≤ x ∧ x < t then 1 else 0) (fun x _ => by simp [c]), sumR_run f t hft]
  omega
 ·rw [if_neg c, sumR_congr W (g := fun _ => 0) (fun x _ => by simp [c])]
  have := sumR_le W 0 (f := fun _ => 0) (fun _ _ => Nat.le_refl _)
  omega
theorem card_cons (W H : Nat) (r : S1) (l : List S1) (h : Can (r :: l)) (h0 : 0 ≤ r.c0) (h1 : r.c0 < (H : Int)) (h2 : 0 ≤ r.c1) (h3 : r.c2 ≤ (W : Int)) : card W H (r :: l) = (r.c2 - r.c1).toNat + card W H l := by
 have hlt := (can_head h).1
 have e : (r.c2 - r.c1).toNat = sumG W H (fun y x => if y = r.c0.toNat ∧ r.c1.toNat ≤ x ∧ x < r.c2.toNat then 1 else 0) := by
  rw [card_run W H r.c0.toNat r.c1.toNat r.c2.toNat (by omega) (by omega) (by omega)]; omega
 rw [e]
 unfold card
 rw [← sumG_add]
 refine sumG_congr W H fun y x hy hx => ?_
 have ht := tail_px h (y : Int) (x : Int)
 have hc := px_cons r l (y : Int) (x : Int)
 by_cases c : In1 r (y : Int) (x : Int)
 ·have e1 : pxb (r :: l) (y : Int) (x : Int) = true := (pxb_iff ..).2 (hc.2 (.inl c))
  have e2 : pxb l (y : Int) (x : Int) = false := by
   cases q : pxb l (y : Int) (x : Int) with
   | false => rfl
   | true => exact absurd c (ht.1 ((pxb_iff ..).1 q)).2
  rw [e1, e2, if_pos (by unfold In1 at c; omega)]; rfl
 ·have e1 : pxb (r :: l) (y : Int) (x : Int) = pxb l (y : Int) (x : Int) := by
   have : pxb (r :: l) (y : Int) (x : Int) = true ↔ pxb l (y : Int) (x : Int) = true := by
    rw [pxb_iff, pxb_iff, hc]; exact ⟨fun q => q.elim (fun k => absurd k c) id, .inr⟩
   cases q : pxb l (y : Int) (x : Int) <;> simp_all
  rw [e1, if_neg (by unfold In1 at c; omega), Nat.zero_add]
def InG (W H : Nat) (l : List S1) : Prop := ∀ r, r ∈ l → 0 ≤ r.c0 ∧ r.c0 < (H : Int) ∧ 0 ≤ r.c1 ∧ r.c2 ≤ (W : Int)
def tot : List S1 → Nat
 | [] => 0
 | r :: l => (r.c2 - r.c1).toNat + tot l
theorem card_tot (W H : Nat) : ∀ (l : List S1), Can l → InG W H l → card W H l = tot l ∧ l.length ≤ tot l
 | [], _, _ => ⟨card_nil W H, Nat.le_refl _⟩
 | r :: l, h, hg => by
  obtain ⟨g0, g1, g2, g3⟩ := hg r (List.mem_cons_self ..)
  obtain ⟨i1, i2⟩ := card_tot W H l (can_tail h) (fun s hs => hg s (List.mem_cons_of_mem _ hs))
  have hlt := (can_head h).1
  rw [card_cons W H r l h g0 g1 g2 g3, i1]
  refine ⟨rfl, ?_⟩
  show l.length + 1 ≤ (r.c2 - r.c1).toNat + tot l
  omega
theorem len_card {W H : Nat} {l : List S1} (h : Can l) (hg : InG W H l) : l.length ≤ H * W := by
 have h1 := card_le W H l
 have h2 := card_tot W H l h hg
 omega
theorem vm_inG {m : S5} {W H : Nat} (h : Vm m) (hW : m.c0 = (W : Int)) (hH : m.c1 = (H : Int)) : InG W H m.c2 := fun r hr => by
 obtain ⟨b0, b1, b2, b3⟩ := h.2.2 r hr
 exact ⟨b0, by omega, b2, by omega⟩
/-- runs with pixels in a grid lie in it -/
theorem inG_px {W H : Nat} {l : List S1} (h : Can l) (hp : ∀ Y X, Px l Y X → 0 ≤ Y ∧ Y < (H : Int) ∧ 0 ≤ X ∧ X < (W : Int)) : InG W H l := fun r hr => by
 have hlt := h.2 r hr
 have k1 := hp r.c0 r.c1 ⟨r, hr, rfl, by omega, by omega⟩
 have k2 := hp r.c0 (r.c2 - 1) ⟨r, hr, rfl, by omega, by omega⟩
 omega
theorem px_inG {W H : Nat} {l : List S1} (h : InG W H l) {Y X : Int} (hp : Px l Y X) : 0 ≤ Y ∧ Y < (H : Int) ∧ 0 ≤ X ∧ X < (W : Int) := by
 obtain ⟨r, hr, q0, q1, q2⟩ := hp
 have := h r hr
 omega
theorem l18_tot (n : Nat) (m : S5) (W H : Nat) (h4 : W ≤ 4096) (hg : InG W H m.c2) (hc : Can m.c2) (hl : m.c2.length ≤ 1000000) : ∀ (k i : Nat) (acc : Nat), m.c2.length - i < k → i ≤ m.c2.length → acc ≤ i * 4096 → l18_0 n m k (acc : Int) (i : Int) = some ((acc + tot (m.c2.drop i) : Nat) : Int)
 | 0, _, _, h, _, _ => by omega
 | k + 1, i, acc, hk, hi, ha => by
  unfold l18_0
  by_cases c : i < m.c2.length
  ·obtain ⟨g0, g1, g2, g3⟩ := hg _ (mem_rd m.c2 i c)
   have hlt := hc.2 _ (mem_rd m.c2 i c)
   have e : IntKind.i64.wrap ((acc : Int) + IntKind.i64.wrap ((rd m.c2 (i : Int)).c2 - (rd m.c2 (i : Int)).c1)) = ((acc + ((rd m.c2 (i : Int)).c2 - (rd m.c2 (i : Int)).c1).toNat : Nat) : Int) := by
    rw [wrap_i64 (x := (rd m.c2 (i : Int)).c2 - (rd m.c2 (i : Int)).c1) (by omega) (by omega), wrap_i64 (by omega) (by omega)]; omega
   rw [if_pos (by omega), if_pos (by omega), e, wsucc i (by omega), l18_tot n m W H h4 hg hc hl k (i + 1) _ (by omega) (by omega) (by omega), drop_rd m.c2 i c]
   rw [show tot (rd m.c2 (i : Int) :: m.c2.drop (i + 1)) = ((rd m.c2 (i : Int)).c2 - (rd m.c2 (i : Int)).c1).toNat + tot (m.c2.drop (i + 1)) from rfl, Nat.add_assoc]
  ·rw [if_neg (by omega), List.drop_eq_nil_of_le (by omega)]
   rfl
theorem count_vm (n : Nat) (m : S5) (W H : Nat) (h : Vm m) (hW : m.c0 = (W : Int)) (hH : m.c1 = (H : Int)) (hl : m.c2.length ≤ 1000000) (hn : m.c2.length < n) : g18 n m = some ((card W H m.c2 : Nat) : Int) := by
 obtain ⟨v, e1, _, _, hv⟩ := g17_vm n m (by omega) hn
 have v0 := hv.2 h
 subst v0
 have hg := vm_inG h hW hH
 have hw := h.1.2.1
 unfold g18
 rw [etaS5, e1, Option.bind_some, if_pos rfl, (card_tot W H m.c2 h.2.1 hg).1]
 have := l18_tot n m W H (by omega) hg h.2.1 hl n 0 0 (by omega) (by omega) (by omega)
 simpa using this
end Go.Av
end
