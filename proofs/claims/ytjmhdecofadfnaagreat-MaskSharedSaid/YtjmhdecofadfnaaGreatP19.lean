/- the plain law, part 19 -/
import Derived.Test.YtjmhdecofadfnaaGreatP18
set_option autoImplicit false
set_option linter.unusedSimpArgs false
set_option linter.unusedVariables false
set_option linter.unnecessarySimpa false
section
set_option linter.unusedSimpArgs false
set_option linter.unusedVariables false
namespace Go.Av
theorem of_trap (n : Nat) {x1 x2 x3 x4 t b : Int} (h : Tr x1 x2 x3 x4 t b) (w : S9) (sw : SmW w) (W HH : Nat) (hW : w.c2 = (W : Int)) (hH : w.c3 = (HH : Int)) (w4 : W ≤ 4096) (h4 : HH ≤ 4096) (hn : 5000 ≤ n)
  (hc : ∀ y : Nat, y < HH → 2 * t ≤ midY w y → midY w y < 2 * b → 0 ≤ col w.c0 (midY w y) x1 x4 t b ∧ col w.c0 (midY w y) x2 x3 t b ≤ (W : Int)) :
  ∃ r, g29 n ⟨[trap x1 x2 x3 x4 t b]⟩ w = some (⟨(W : Int), (HH : Int), r⟩, 0) ∧ Can r ∧ ∀ Y X, Px r Y X ↔ 0 ≤ Y ∧ Y < (HH : Int) ∧ (2 * t ≤ midY w Y ∧ midY w Y < 2 * b ∧ col w.c0 (midY w Y) x1 x4 t b ≤ X ∧ X < col w.c0 (midY w Y) x2 x3 t b) := by
 obtain ⟨v, e1, hv⟩ := g61_wn n w
 have hw : Wn w := by
  obtain ⟨s1, s2, s3, s4⟩ := sw
  unfold Wn Gd
  omega
 have v0 := hv.2 hw
 subst v0
 obtain ⟨r, e2, hcan, hp⟩ := l29_rows n (by omega) [trap x1 x2 x3 x4 t b] w W HH hW hH w4 h4 (fun Y X => 2 * t ≤ midY w Y ∧ midY w Y < 2 * b ∧ col w.c0 (midY w Y) x1 x4 t b ≤ X ∧ X < col w.c0 (midY w Y) x2 x3 t b)
  (fun y hy => by
   by_cases c : 2 * t ≤ midY w y ∧ midY w y < 2 * b
   ·obtain ⟨c1, c2⟩ := hc y hy c.1 c.2
    exact .inr ⟨_, _, cross_in n (by omega) h w sw y (by omega) c.1 c.2, c1, col_mono h.htb (Int.le_of_lt h.h12) (Int.le_of_lt h.h43) c.1 c.2, c2, fun X => ⟨fun q => q.2.2, fun q => ⟨c.1, c.2, q⟩⟩⟩
   ·exact .inl ⟨cross_out n (by omega) h w sw y (by omega) c, fun X q => c ⟨q.1, q.2.1⟩⟩)
  n 0 [] (by omega) (by omega) ⟨List.Pairwise.nil, by simp⟩ (by simp) (by simp) (fun Y X => ⟨fun q => absurd q (px_nil _ _), fun ⟨q1, q2, _⟩ => by omega⟩)
 refine ⟨r, ?_, hcan, hp⟩
 unfold g29
 rw [show g33 n (⟨(⟨[trap x1 x2 x3 x4 t b]⟩ : S16).c0⟩ : S16) = some 0 from tvalid_ok h n (by omega), Option.bind_some, if_pos rfl, show g61 n (⟨w.c0, w.c1, w.c2, w.c3⟩ : S9) = some 0 from e1, Option.bind_some, if_pos rfl]
 exact e2
theorem inG_px2 {W H : Nat} {r : List S1} (hc : Can r) (h : ∀ Y X, Px r Y X → 0 ≤ Y ∧ Y < (H : Int) ∧ 0 ≤ X ∧ X < (W : Int)) : InG W H r := fun s hs => by
 have h1 := hc.2 s hs
 have a1 := h s.c0 s.c1 ⟨s, hs, rfl, by omega, by omega⟩
 have a2 := h s.c0 (s.c2 - 1) ⟨s, hs, rfl, by omega, by omega⟩
 omega
def flr (w : Int) : Nat → List S1
 | 0 => []
 | k + 1 => flr w k ++ [⟨(k : Int) + 2, 2, w + 2⟩]
theorem flr_mem (w : Int) : ∀ (k : Nat) (r : S1), r ∈ flr w k → ∃ y : Nat, y < k ∧ r = ⟨(y : Int) + 2, 2, w + 2⟩
 | 0, r, h => by simp [flr] at h
 | k + 1, r, h => by
  rcases List.mem_append.1 h with h | h
  ·obtain ⟨y, hy, e⟩ := flr_mem w k r h; exact ⟨y, by omega, e⟩
  ·exact ⟨k, by omega, by simpa using h⟩
theorem flr_has (w : Int) : ∀ (k y : Nat), y < k → (⟨(y : Int) + 2, 2, w + 2⟩ : S1) ∈ flr w k
 | 0, y, h => by omega
 | k + 1, y, h => by
  by_cases c : y = k
  ·subst c; exact List.mem_append_right _ (by simp)
  ·exact List.mem_append_left _ (flr_has w k y (by omega))
theorem flr_can (w : Int) (hw : 0 < w) : ∀ k, Can (flr w k)
 | 0 => ⟨List.Pairwise.nil, by simp [flr]⟩
 | k + 1 => can_append_one (flr_can w hw k) (by simp only; omega) (fun s hs => by
   obtain ⟨y, hy, rfl⟩ := flr_mem w k s hs
   exact .inl (by simp only; omega))
theorem tot_app : ∀ (a b : List S1), tot (a ++ b) = tot a + tot b
 | [], b => by simp [tot]
 | r :: a, b => by simp only [List.cons_append, tot, tot_app a b]; omega
theorem flr_tot (w : Nat) : ∀ k, tot (flr (w : Int) k) = k * w
 | 0 => by simp [flr, tot]
 | k + 1 => by
  rw [flr, tot_app, flr_tot w k, Nat.succ_mul]
  simp only [tot]
  omega
theorem g15_rng2 (n : Nat) (a m : Int) (hm : 0 < m) (hm2 : m < 4611686018427387904) : ∃ v, g15 n a m = some v ∧ 0 ≤ v ∧ v < m := g15_rng n a m hm hm2
theorem pureMH (a0 a1 a2 a3 a4 a5 : Int) (_ : isI64 a0) (_ : isI64 a1) (_ : isI64 a2) (_ : isI64 a3) (_ : isI64 a4) (_ : isI64 a5) : ∃ n, g9 n a0 a1 a2 a3 a4 a5 = some true := by
 obtain ⟨n, hn⟩ : ∃ n : Nat, 90000 ≤ n := ⟨90000, Nat.le_refl _⟩
 refine ⟨n, ?_⟩
 have W_ : ∀ x : Int, -10000000000000 ≤ x → x ≤ 10000000000000 → IntKind.i64.wrap x = x := fun x h1 h2 => by rw [wrap_i64] <;> omega
 obtain ⟨v1, e1, a1l, a1u⟩ := g15_rng2 n a0 30 (by omega) (by omega)
 obtain ⟨v2, e2, a2l, a2u⟩ := g15_rng2 n a1 30 (by omega) (by omega)
 obtain ⟨v3, e3, a3l, a3u⟩ := g15_rng2 n a4 2000 (by omega) (by omega)
 obtain ⟨v4, e4, a4l, a4u⟩ := g15_rng2 n a5 2000 (by omega) (by omega)
 have k1 : IntKind.i64.wrap (2 + v1) = 2 + v1 := W_ _ (by omega) (by omega)
 have k2 : IntKind.i64.wrap (2 + v1 - 1) = 1 + v1 := by rw [W_ _ (by omega) (by omega)]; omega
 obtain ⟨v5, e5, a5l, a5u⟩ := g15_rng2 n a2 (1 + v1) (by omega) (by omega)
 obtain ⟨v6, e6, a6l, a6u⟩ := g15_rng2 n a3 (1 + v1) (by omega) (by omega)
 obtain ⟨wd, hwd⟩ := Int.eq_ofNat_of_zero_le (show 0 ≤ 2 + v1 by omega)
 obtain ⟨ht, hht⟩ := Int.eq_ofNat_of_zero_le (show 0 ≤ 1 + v2 by omega)
 generalize hl : v3 - 1000 = l
 generalize htp : v4 - 1000 = t
 have k3 : IntKind.i64.wrap l = l := W_ _ (by omega) (by omega)
 have k4 : IntKind.i64.wrap t = t := W_ _ (by omega) (by omega)
 have k5 : IntKind.i64.wrap (1 + v2) = 1 + v2 := W_ _ (by omega) (by omega)
 have k6 : IntKind.i64.wrap (l + 1) = l + 1 := W_ _ (by omega) (by omega)
 have k7 : IntKind.i64.wrap (l + 1 + v5) = l + 1 + v5 := W_ _ (by omega) (by omega)
 have k8 : IntKind.i64.wrap (l + 1 + v6) = l + 1 + v6 := W_ _ (by omega) (by omega)
 have k9 : IntKind.i64.wrap (l + (2 + v1)) = l + wd := by rw [hwd]; exact W_ _ (by omega) (by omega)
 have k10 : IntKind.i64.wrap (t + (1 + v2)) = t + ht := by rw [hht]; exact W_ _ (by omega) (by omega)
 have k11 : IntKind.i64.wrap (l - 2) = l - 2 := W_ _ (by omega) (by omega)
 have k12 : IntKind.i64.wrap (t - 2) = t - 2 := W_ _ (by omega) (by omega)
 have k13 : IntKind.i64.wrap (2 + v1 + 4) = ((wd + 4 : Nat) : Int) := by rw [W_ _ (by omega) (by omega)]; omega
 have k14 : IntKind.i64.wrap (1 + v2 + 4) = ((ht + 4 : Nat) : Int) := by rw [W_ _ (by omega) (by omega)]; omega
 generalize hu : l + 1 + v5 = u at *
 generalize hd : l + 1 + v6 = d at *
 have T0 : Tr l (l + wd) (l + wd) l t (t + ht) := by constructor <;> omega
 have T1 : Tr l u d l t (t + ht) := by constructor <;> omega
 have T2 : Tr u (l + wd) (l + wd) d t (t + ht) := by constructor <;> omega
 have sw : SmW ⟨l - 2, t - 2, ((wd + 4 : Nat) : Int), ((ht + 4 : Nat) : Int)⟩ := by unfold SmW; simp only; omega
 have htb : t < t + (ht : Int) := by omega
 have hL : ∀ m, col (l - 2) m l l t (t + ht) = 2 := fun m => by rw [col_const htb]; omega
 have hR : ∀ m, col (l - 2) m (l + wd) (l + wd) t (t + ht) = wd + 2 := fun m => by rw [col_const htb]; omega
 have hC : ∀ m, 2 * t ≤ m → m < 2 * (t + ht) → 2 ≤ col (l - 2) m u d t (t + ht) ∧ col (l - 2) m u d t (t + ht) ≤ wd + 2 := fun m m1 m2 => by
  have q1 := col_mono (wx := l - 2) (m := m) (xt := l) (xb := l) (xt' := u) (xb' := d) htb (by omega) (by omega) m1 m2
  have q2 := col_mono (wx := l - 2) (m := m) (xt := u) (xb := d) (xt' := l + wd) (xb' := l + wd) htb (by omega) (by omega) m1 m2
  rw [hL] at q1
  rw [hR] at q2
  exact ⟨q1, q2⟩
 have b1 : wd ≤ 31 := by omega
 have b2 : ht ≤ 30 := by omega
 obtain ⟨r0, f0, c0, p0⟩ := of_trap n T0 _ sw (wd + 4) (ht + 4) rfl rfl (by omega) (by omega) (by omega) (fun y hy m1 m2 => by simp only [hL, hR]; omega)
 obtain ⟨r1, f1, c1, p1⟩ := of_trap n T1 _ sw (wd + 4) (ht + 4) rfl rfl (by omega) (by omega) (by omega) (fun y hy m1 m2 => by have := hC _ m1 m2; simp only [hL]; (try simp only at this); omega)
 obtain ⟨r2, f2, c2, p2⟩ := of_trap n T2 _ sw (wd + 4) (ht + 4) rfl rfl (by omega) (by omega) (by omega) (fun y hy m1 m2 => by have := hC _ m1 m2; simp only [hR]; (try simp only at this); omega)
 simp only [hL, hR] at p0 p1 p2
 have hM : ∀ Y, midY ⟨l - 2, t - 2, ((wd + 4 : Nat) : Int), ((ht + 4 : Nat) : Int)⟩ Y = 2 * (t - 2 + Y) + 1 := fun Y => rfl
 simp only [hM] at p0 p1 p2
 have g0 : InG (wd + 4) (ht + 4) r0 := inG_px2 c0 (fun Y X q => by have := (p0 Y X).1 q; omega)
 have g1 : InG (wd + 4) (ht + 4) r1 := inG_px2 c1 (fun Y X q => by have q := (p1 Y X).1 q; have := hC _ q.2.2.1 q.2.2.2.1; omega)
 have g2 : InG (wd + 4) (ht + 4) r2 := inG_px2 c2 (fun Y X q => by have q := (p2 Y X).1 q; have := hC _ q.2.2.1 q.2.2.2.1; omega)
 have hWH : (ht + 4) * (wd + 4) ≤ 3000 := Nat.le_trans (Nat.mul_le_mul (show ht + 4 ≤ 34 by omega) (show wd + 4 ≤ 35 by omega)) (by decide)
 have K0 := mk_new (W := wd + 4) (H := ht + 4) (by omega) (by omega) c0 g0
 have K1 := mk_new (W := wd + 4) (H := ht + 4) (by omega) (by omega) c1 g1
 have K2 := mk_new (W := wd + 4) (H := ht + 4) (by omega) (by omega) c2 g2
 obtain ⟨mm, fm, Km, pm⟩ := meet_mk hWH (n := n) (by omega) K1 K2
 obtain ⟨um, fu, Ku, pu⟩ := union_mk hWH (n := n) (by omega) K1 K2
 have cm : mm.c2 = [] := by
  rcases List.eq_nil_or_concat mm.c2 with e | ⟨p, s, e⟩
  ·exact e
  ·have hs : s ∈ mm.c2 := by rw [e]; simp
   have h1 := Km.vm.2.1.2 s hs
   have q := (pm s.c0 s.c1).1 ⟨s, hs, rfl, by omega, by omega⟩
   have q1 := (p1 _ _).1 q.1
   have q2 := (p2 _ _).1 q.2
   omega
 have n0 : g18 n mm = some 0 := by
  rw [count_mk hWH (by omega) Km, cm, card_nil]; rfl
 have q1 := eq_mk hWH (n := n) (by omega) Ku K0 (fun Y X => by
  rw [pu]
  simp only [p0, p1, p2]
  constructor
  ·rintro (⟨z1, z2, z3, z4, z5, z6⟩ | ⟨z1, z2, z3, z4, z5, z6⟩)
   ·have := hC _ z3 z4; exact ⟨z1, z2, z3, z4, z5, by omega⟩
   ·have := hC _ z3 z4; exact ⟨z1, z2, z3, z4, by omega, z6⟩
  ·rintro ⟨z1, z2, z3, z4, z5, z6⟩
   by_cases c : X < col (l - 2) (2 * (t - 2 + Y) + 1) u d t (t + ht)
   ·exact .inl ⟨z1, z2, z3, z4, z5, c⟩
   ·exact .inr ⟨z1, z2, z3, z4, by omega, z6⟩)
 have hfl : r0 = flr (wd : Int) ht := by
  refine can_unique _ _ c0 (flr_can _ (by omega) ht) (fun Y X => ?_)
  rw [p0]
  constructor
  ·rintro ⟨z1, z2, z3, z4, z5, z6⟩
   obtain ⟨y, hy⟩ := Int.eq_ofNat_of_zero_le (show 0 ≤ Y - 2 by omega)
   refine ⟨_, flr_has (wd : Int) ht y (by omega), ?_, ?_, ?_⟩
   ·simp only; omega
   ·simp only; omega
   ·simp only; omega
  ·rintro ⟨s, hs, z1, z2, z3⟩
   obtain ⟨y, hy, rfl⟩ := flr_mem _ _ _ hs
   simp only at z1 z2 z3
   omega
 have q2 : g18 n (⟨((wd + 4 : Nat) : Int), ((ht + 4 : Nat) : Int), r0⟩ : S5) = some ((ht * wd : Nat) : Int) := by
  rw [count_mk hWH (by omega) K0]
  have := (card_tot (wd + 4) (ht + 4) r0 c0 g0).1
  rw [this, hfl, flr_tot]
 have k15 : IntKind.i64.wrap ((2 + v1) * (1 + v2)) = ((ht * wd : Nat) : Int) := by
  have hb : ht * wd ≤ 30 * 31 := Nat.mul_le_mul b2 b1
  rw [hwd, hht, Int.natCast_mul, Int.mul_comm]
  rw [← Int.natCast_mul]
  exact W_ _ (by omega) (by omega)
 unfold trap at f0 f1 f2
 unfold g9
 simp only [e1, e2, e3, e4, Option.bind_some, k1, k2, e5, e6, hl, htp, k3, k4, k5, k6, k7, k8, k9, k10, k11, k12, k13, k14, hu, hd, f0, f1, f2, etaS5, fm, fu, n0, q1, q2, k15, if_true]
 rfl
end Go.Av
end
