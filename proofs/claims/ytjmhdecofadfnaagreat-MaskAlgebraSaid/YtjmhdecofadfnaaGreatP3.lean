/- the plain law, part 3 -/
import Derived.Test.YtjmhdecofadfnaaGreatP2
set_option autoImplicit false
set_option linter.unusedSimpArgs false
set_option linter.unusedVariables false
set_option linter.unnecessarySimpa false
section
namespace Go.Av
/-- the pixels of a set -/
def Bt (B : List Bool) (W : Nat) (Y X : Int) : Prop := 0 ≤ Y ∧ 0 ≤ X ∧ X < (W : Int) ∧ B.getD (Y.toNat * W + X.toNat) false = true
theorem bt_nat (B : List Bool) (W y x : Nat) (hx : x < W) : Bt B W (y : Int) (x : Int) ↔ B.getD (y * W + x) false = true := by
 unfold Bt
 rw [Int.toNat_natCast, Int.toNat_natCast]
 constructor
 ·intro h; exact h.2.2.2
 ·intro h; exact ⟨by omega, by omega, by omega, h⟩
theorem rd_bool (B : List Bool) (i : Nat) (h : i < B.length) : rd B (i : Int) = B.getD i false := by
 rw [rd_nat B i h, List.getD_eq_getElem?_getD, List.getElem?_eq_getElem h, Option.getD_some]
/-- what a row's walk has found: the runs r of the pixels ahead of (y, x) -/
structure RowI (B : List Bool) (W : Nat) (y x : Nat) (r : List S1) : Prop where
 can : Can r
 bd : Bd r (y : Int) (x : Int)
 px : ∀ Y X, Px r Y X ↔ Bt B W Y X ∧ (Y < (y : Int) ∨ (Y = (y : Int) ∧ X < (x : Int)))
 len : r.length ≤ y * W + x
theorem rowI_skip {B : List Bool} {W y x : Nat} {r : List S1} (h : RowI B W y x r) (hb : B.getD (y * W + x) false ≠ true) : RowI B W y (x + 1) r := by
 refine ⟨h.can, bd_mono h.bd (.inr ⟨rfl, by omega⟩), fun Y X => ?_, by have := h.len; omega⟩
 rw [h.px Y X]
 constructor
 ·rintro ⟨k1, k2⟩; exact ⟨k1, by omega⟩
 ·rintro ⟨k1, k2⟩
  refine ⟨k1, ?_⟩
  rcases k2 with k2 | ⟨k2, k3⟩
  ·exact .inl k2
  ·refine .inr ⟨k2, ?_⟩
   by_cases q : X = (x : Int)
   ·subst k2; subst q
    have := k1.2.2.2
    rw [Int.toNat_natCast, Int.toNat_natCast] at this
    exact absurd this hb
   ·omega
theorem span_append (r : List S1) (y x : Int) (h : ∀ s, s ∈ r → lt1 s ⟨y, x, x + 1⟩) : spanR r y x (x + 1) = r ++ [⟨y, x, x + 1⟩] := by
 unfold spanR
 rw [if_neg (by omega)]
 rcases List.eq_nil_or_concat r with rfl | ⟨p, s, rfl⟩
 ·rw [if_neg (by simp)]
 rw [List.concat_eq_append] at *
 rw [if_pos (by simp), rdn_last]
 rcases h s (by simp) with k | ⟨k, k'⟩
 ·rw [if_neg (by simp only [] at k; omega)]
 ·rw [if_pos k, if_neg (by simp only [] at k'; omega)]
theorem rowI_span {B : List Bool} {W y x : Nat} {r : List S1} (h : RowI B W y x r) (hx : x < W) (hb : B.getD (y * W + x) false = true) : RowI B W y (x + 1) (spanR r (y : Int) (x : Int) ((x : Int) + 1)) := by
 obtain ⟨h1, h2, h3, h4⟩ := span_ok r (y : Int) (x : Int) ((x : Int) + 1) h.can h.bd
 refine ⟨h1, bd_mono h2 (.inr ⟨rfl, by omega⟩), fun Y X => ?_, by have := h.len; omega⟩
 rw [h3, h.px]
 constructor
 ·rintro (⟨k1, k2⟩ | ⟨rfl, k2, k3⟩)
  ·exact ⟨k1, by omega⟩
  ·have : X = (x : Int) := by omega
   subst this
   exact ⟨(bt_nat B W y x hx).2 hb, by omega⟩
 ·rintro ⟨k1, k2⟩
  by_cases q : Y = (y : Int) ∧ X = (x : Int)
  ·exact .inr (by omega)
  ·exact .inl ⟨k1, by omega⟩
theorem rowI_last {B : List Bool} {W y x : Nat} {r : List S1} (h : RowI B W y x r) (h0 : 0 < x) (hx : x ≤ W) (hb : B.getD (y * W + x - 1) false = true) :
  ∃ p s, r = p ++ [s] ∧ s.c0 = (y : Int) ∧ s.c2 = (x : Int) := by
 have hp : Px r (y : Int) ((x - 1 : Nat) : Int) := (h.px _ _).2 ⟨(bt_nat B W y (x - 1) (by omega)).2 (by rw [show y * W + (x - 1) = y * W + x - 1 by omega]; exact hb), by omega⟩
 obtain ⟨t, ht, e0, e1, e2⟩ := hp
 rcases List.eq_nil_or_concat r with rfl | ⟨p, s, rfl⟩
 ·cases ht
 rw [List.concat_eq_append] at *
 obtain ⟨hp, hs, hps⟩ := can_prefix h.can
 have T : ∀ s', s' ∈ p ++ [s] → s'.c0 = (y : Int) → s'.c2 ≤ (x : Int) := fun s' hs' k => by
  have hlt := h.can.2 s' hs'
  have := (h.px s'.c0 (s'.c2 - 1)).1 ⟨s', hs', rfl, by omega, by omega⟩
  omega
 refine ⟨p, s, rfl, ?_⟩
 rcases List.mem_append.1 ht with ht | ht
 ·have hb := h.bd s (by simp)
  rcases hps t ht with k | ⟨k, k'⟩
  ·omega
  ·have := T s (by simp) (by omega)
   omega
 ·have e := List.mem_singleton.1 ht
  subst e
  have := T t (by simp) e0
  exact ⟨e0, by omega⟩
/-- the runs of a set, row by row -/
theorem l53_1_px (n : Nat) (R : Int → List S1 → Option S5) (a0 : S3) (W H y : Nat) (P : S5 → Prop) (hW : a0.c0 = (W : Int)) (hB : a0.c2.length = H * W) (hM : H * W ≤ 100000000) (hW4 : W ≤ 100000) (hH4 : H ≤ 100000) (hy : y < H)
  (hR : ∀ runs, RowI a0.c2 W (y + 1) 0 runs → ∃ m, R ((y + 1 : Nat) : Int) runs = some m ∧ P m) : ∀ (k x : Nat) (runs : List S1), W - x < k → x ≤ W → RowI a0.c2 W y x runs → ∃ m, l53_1 n R a0 (y : Int) k (x : Int) runs = some m ∧ P m
 | 0, _, _, h, _, _ => by omega
 | k + 1, x, runs, hk, hx, hI => by
  have hs : y * W + W ≤ H * W := by
   have := Nat.mul_le_mul_right W (show y + 1 ≤ H by omega)
   rwa [Nat.succ_mul] at this
  have hlen := hI.len
  unfold l53_1
  rw [hW]
  by_cases c : x < W
  ·have hHW : y < 100000001 := by
    have : y * 1 ≤ y * W := Nat.mul_le_mul_left _ (by omega)
    omega
   have hyw : (y : Int) * (W : Int) = ((y * W : Nat) : Int) := by rw [← Int.natCast_mul]
   have e0 : IntKind.i64.wrap ((y : Int) * (W : Int)) = ((y * W : Nat) : Int) := by rw [hyw, wrap_i64 (by omega) (by omega)]
   have e1 : IntKind.i64.wrap (((y * W : Nat) : Int) + (x : Int)) = ((y * W + x : Nat) : Int) := by
    rw [wrap_i64 (by omega) (by omega)]; omega
   have hrd := rd_bool a0.c2 (y * W + x) (by omega)
   have IH := fun (r : List S1) (h : RowI a0.c2 W y (x + 1) r) => l53_1_px n R a0 W H y P hW hB hM hW4 hH4 hy hR k (x + 1) r (by omega) (by omega) h
   rw [if_pos (by omega), e0, e1, if_pos (by omega), wsucc x (by omega), hrd]
   by_cases b : a0.c2.getD (y * W + x) false = true
   ·have hsp := rowI_span hI c b
    rw [if_pos b]
    by_cases z : 0 < x
    ·have hrd2 := rd_bool a0.c2 (y * W + x - 1) (by omega)
     rw [if_pos (by omega), wpred (y * W + x) (by omega) (by omega), if_pos (by omega), hrd2]
     by_cases b2 : a0.c2.getD (y * W + x - 1) false = true
     ·obtain ⟨p, s, rfl, q0, q2⟩ := rowI_last hI z (by omega) b2
      have hl1 : 1 ≤ (p ++ [s]).length := by simp
      rw [if_pos b2, wpred (p ++ [s]).length (by omega) hl1, if_pos (by omega), Int.toNat_natCast, if_pos (by omega)]
      refine IH _ ?_
      have e : spanR (p ++ [s]) (y : Int) (x : Int) ((x : Int) + 1) = (p ++ [s]).set ((p ++ [s]).length - 1) ⟨(rdn (p ++ [s]) ((p ++ [s]).length - 1)).c0, (rdn (p ++ [s]) ((p ++ [s]).length - 1)).c1, ((x + 1 : Nat) : Int)⟩ := by
       unfold spanR
       rw [if_neg (by omega), if_pos (by omega)]
       simp only [rdn_last]
       rw [if_pos q0, if_pos (by omega), if_neg (by omega)]
       rfl
      rw [← e]; exact hsp
     ·rw [if_neg b2, if_pos (by omega)]
      refine IH _ ?_
      have e := span_append runs (y : Int) (x : Int) (fun s hs => ?_)
      ·rw [e] at hsp; exact hsp
      ·have hlt := hI.can.2 s hs
       have := (hI.px s.c0 (s.c2 - 1)).1 ⟨s, hs, rfl, by omega, by omega⟩
       rcases this.2 with k | ⟨k, k'⟩
       ·exact .inl k
       ·refine .inr ⟨k, ?_⟩
        simp only []
        by_cases q : s.c2 = (x : Int)
        ·have h4 := this.1
         rw [k, show s.c2 - 1 = ((x - 1 : Nat) : Int) by omega] at h4
         rw [bt_nat _ _ _ _ (by omega), show y * W + (x - 1) = y * W + x - 1 by omega] at h4
         exact absurd h4 b2
        ·omega
    ·rw [if_neg (by omega), if_pos (by omega)]
     refine IH _ ?_
     have e := span_append runs (y : Int) (x : Int) (fun s hs => ?_)
     ·rw [e] at hsp; exact hsp
     ·have hlt := hI.can.2 s hs
      have := (hI.px s.c0 (s.c2 - 1)).1 ⟨s, hs, rfl, by omega, by omega⟩
      have h4 := this.1
      unfold Bt at h4
      exact .inl (by simp only []; omega)
   ·rw [if_neg b]
    exact IH _ (rowI_skip hI b)
  ·have : x = W := by omega
   subst this
   rw [if_neg (by omega), wsucc y (by omega)]
   refine hR runs ⟨hI.can, bd_mono hI.bd (.inl (by omega)), fun Y X => ?_, by rw [Nat.succ_mul]; omega⟩
   rw [hI.px]
   unfold Bt
   constructor
   ·rintro ⟨k1, k2⟩; exact ⟨k1, by omega⟩
   ·rintro ⟨k1, k2⟩; exact ⟨k1, by omega⟩
theorem l53_0_px (n : Nat) (a0 : S3) (W H : Nat) (P : S5 → Prop) (hW : a0.c0 = (W : Int)) (hH : a0.c1 = (H : Int)) (hB : a0.c2.length = H * W) (hM : H * W ≤ 100000000) (hW4 : W ≤ 100000) (hH4 : H ≤ 100000) (hn : W < n)
  (hR : ∀ runs, RowI a0.c2 W H 0 runs → P ⟨(W : Int), (H : Int), runs⟩) : ∀ (k y : Nat) (runs : List S1), H - y < k → y ≤ H → RowI a0.c2 W y 0 runs → ∃ m, l53_0 n a0 k (y : Int) runs = some m ∧ P m
 | 0, _, _, h, _, _ => by omega
 | k + 1, y, runs, hk, hy, hI => by
  unfold l53_0
  rw [hH]
  by_cases c : y < H
  ·rw [if_pos (by omega)]
   exact l53_1_px n (l53_0 n a0 k) a0 W H y P hW hB hM hW4 hH4 c (fun r h => l53_0_px n a0 W H P hW hH hB hM hW4 hH4 hn hR k (y + 1) r (by omega) (by omega) h) n 0 runs (by omega) (by omega) hI
  ·have : y = H := by omega
   subst this
   rw [if_neg (by omega), hW]
   exact ⟨_, rfl, hR runs hI⟩
/-- Set.Mask -/
theorem g53_px (n : Nat) (a0 : S3) (W H : Nat) (hW : a0.c0 = (W : Int)) (hH : a0.c1 = (H : Int)) (hB : a0.c2.length = H * W) (hM : H * W ≤ 100000000) (hW4 : W ≤ 100000) (hH4 : H ≤ 100000) (hn : W < n) (hn2 : H < n) :
  ∃ r, g53 n a0 = some ⟨(W : Int), (H : Int), r⟩ ∧ Can r ∧ r.length ≤ H * W ∧ ∀ Y X, Px r Y X ↔ Bt a0.c2 W Y X ∧ Y < (H : Int) := by
 have h0 : RowI a0.c2 W 0 0 [] := ⟨⟨List.Pairwise.nil, fun _ h => by cases h⟩, bd_nil _ _, fun Y X => ⟨fun h => absurd h (px_nil _ _), fun ⟨h1, h2⟩ => by unfold Bt at h1; omega⟩, by simp⟩
 obtain ⟨m, e, r, rfl, q⟩ := l53_0_px n a0 W H (fun m => ∃ r, m = ⟨(W : Int), (H : Int), r⟩ ∧ RowI a0.c2 W H 0 r) hW hH hB hM hW4 hH4 hn (fun r h => ⟨r, rfl, h⟩) n 0 [] (by omega) (by omega) h0
 refine ⟨r, e, q.can, by have := q.len; omega, fun Y X => ?_⟩
 rw [q.px]
 unfold Bt
 constructor
 ·rintro ⟨k1, k2⟩; exact ⟨k1, by omega⟩
 ·rintro ⟨k1, k2⟩; exact ⟨k1, by omega⟩
end Go.Av
end
