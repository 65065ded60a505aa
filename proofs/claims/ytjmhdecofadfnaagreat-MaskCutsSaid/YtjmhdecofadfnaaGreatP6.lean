/- the plain law, part 6 -/
import Derived.Test.YtjmhdecofadfnaaGreatP5
set_option autoImplicit false
set_option linter.unusedSimpArgs false
set_option linter.unusedVariables false
set_option linter.unnecessarySimpa false
section
namespace Go.Av
theorem l12_P (n : Nat) (P : S5 → Prop) (W H : Nat) (a2 : List Int) (h1 : W ≤ 10) (h2 : H ≤ 10) (hP : ∀ B : List Bool, B.length = H * W → ∃ m, g53 n ⟨(W : Int), (H : Int), B⟩ = some m ∧ P m) : ∀ (k i : Nat) (B : List Bool), B.length = H * W → B.length - i < k → i ≤ B.length → ∃ m, l12_0 n (W : Int) (H : Int) a2 k (i : Int) B = some m ∧ P m
 | 0, _, _, _, h, _ => by omega
 | k + 1, i, B, hB, hk, hi => by
  have hw : H * W ≤ 10 * 10 := Nat.mul_le_mul h2 h1
  have G : ∃ m, ((g53 n (⟨(W : Int), (H : Int), B⟩ : S3)).bind fun v => some (⟨v.c0, v.c1, v.c2⟩ : S5)) = some m ∧ P m := by
   obtain ⟨m, e, hm⟩ := hP B hB
   rw [e]; exact ⟨_, rfl, hm⟩
  unfold l12_0
  by_cases c : i < B.length
  ·by_cases z : 0 < (a2.length : Int)
   ·have t0 := Int.tmod_nonneg (a2.length : Int) (show (0 : Int) ≤ (i : Int) by omega)
    have t1 := Int.tmod_lt_of_pos (i : Int) z
    have IH := fun (B' : List Bool) (h : B'.length = B.length) => l12_P n P W H a2 h1 h2 hP k (i + 1) B' (by omega) (by omega) (by omega)
    have hc : (0 : Int) ≤ (i : Int) ∧ (i : Int) < (B.length : Int) := by omega
    rw [if_pos (by omega), if_pos z, if_pos (by omega), if_pos ⟨t0, t1⟩, if_pos (by omega)]
    simp only [hc, Int.toNat_natCast, c, and_self, if_true, wsucc i (by omega)]
    repeat' split
    all_goals exact IH _ (by simp)
   ·rw [if_pos (by omega), if_neg z]; exact G
  ·rw [if_neg (by omega)]; exact G
theorem g12_vm (n : Nat) (hn : 4000 ≤ n) (w h : Int) (a2 : List Int) (w0 : 0 ≤ w ∧ w < 11) (h0 : 0 ≤ h ∧ h < 11) : ∃ m, g12 n w h a2 = some m ∧ Vm m ∧ m.c2.length ≤ 100 ∧ m.c0 = w ∧ m.c1 = h := by
 obtain ⟨W, rfl⟩ : ∃ W : Nat, w = (W : Int) := ⟨w.toNat, by omega⟩
 obtain ⟨H, rfl⟩ : ∃ H : Nat, h = (H : Int) := ⟨h.toNat, by omega⟩
 have hw : W * H ≤ 10 * 10 := Nat.mul_le_mul (by omega) (by omega)
 have hw2 : H * W ≤ 10 * 10 := Nat.mul_le_mul (by omega) (by omega)
 have e : IntKind.i64.wrap ((W : Int) * (H : Int)) = ((W * H : Nat) : Int) := by rw [← Int.natCast_mul, wrap_i64 (by omega) (by omega)]
 unfold g12
 rw [e, if_pos (by omega), Int.toNat_natCast]
 refine l12_P n (fun m => Vm m ∧ m.c2.length ≤ 100 ∧ m.c0 = (W : Int) ∧ m.c1 = (H : Int)) W H a2 (by omega) (by omega) (fun B hB => ?_) n 0 _ (by rw [List.length_replicate, Nat.mul_comm]) (by simp; omega) (by omega)
 obtain ⟨r, e1, e2, e3, e4⟩ := g53_px n ⟨(W : Int), (H : Int), B⟩ W H rfl rfl hB (by omega) (by omega) (by omega) (by omega) (by omega)
 refine ⟨_, e1, ⟨⟨by simp only []; omega, by simp only []; omega, by simp only []; omega, by simp only []; omega⟩, e2, fun s hs => ?_⟩, by simp only []; omega, rfl, rfl⟩
 have hlt := e2.2 s hs
 obtain ⟨⟨k1, k2, k3, k4⟩, k5⟩ := (e4 s.c0 s.c1).1 ⟨s, hs, rfl, by omega, by omega⟩
 obtain ⟨⟨j1, j2, j3, j4⟩, j5⟩ := (e4 s.c0 (s.c2 - 1)).1 ⟨s, hs, rfl, by omega, by omega⟩
 unfold Bn
 simp only []
 omega
theorem l23_rf (n : Nat) (a : S5) (hl : a.c2.length ≤ 1000000000) : ∀ (k i : Nat), a.c2.length - i < k → i ≤ a.c2.length → l23_0 n a a k (i : Int) = some true
 | 0, _, h, _ => by omega
 | k + 1, i, hk, hi => by
  unfold l23_0
  by_cases c : i < a.c2.length
  ·rw [if_pos (by omega), if_pos (by omega), if_pos (by omega), if_pos ⟨rfl, rfl, rfl⟩, wsucc i (by omega)]
   exact l23_rf n a hl k (i + 1) (by omega) (by omega)
  ·rw [if_neg (by omega)]
theorem eq_rf (n : Nat) (a : S5) (hl : a.c2.length ≤ 1000000000) (hn : a.c2.length < n) : g23 n a a = some true := by
 unfold g23
 rw [if_pos rfl, if_pos rfl, if_pos rfl]
 exact l23_rf n a hl n 0 (by omega) (by omega)
theorem eq2_rf (n : Nat) (hn : 4000 ≤ n) (a : S5) (hl : a.c2.length ≤ 3200) : g22 n a a = some true := by
 obtain ⟨v, h1, h2⟩ := equal_ok n hn a a hl
 rw [h1, ← h2]; exact eq_rf n a (by omega) (by omega)
theorem g15_rng (n : Nat) (a m : Int) (hm : 0 < m) (hm2 : m < 4611686018427387904) : ∃ v, g15 n a m = some v ∧ 0 ≤ v ∧ v < m := by
 have h1 : Int.tmod a m < m := Int.tmod_lt_of_pos _ hm
 have h2 : -m < Int.tmod a m := by
  by_cases h : 0 ≤ a
  ·have := Int.tmod_nonneg m h; omega
  ·have e : Int.tmod a m = -(Int.tmod (-a) m) := by rw [Int.neg_tmod, Int.neg_neg]
   have := Int.tmod_lt_of_pos (-a) hm
   omega
 unfold g15
 rw [if_pos (by omega), if_pos (by omega), wrap_i64 (by omega) (by omega)]
 exact ⟨_, rfl, Int.tmod_nonneg _ (by omega), Int.tmod_lt_of_pos _ hm⟩
section
variable (n : Nat) (hn : 5000 ≤ n)
include hn
theorem stepC (m : S5) (w : S9) (hl : m.c2.length ≤ 200) (K : Option Bool) (P Q : Prop) [Decidable P] [Decidable Q] (hp : P) (hq : Q) :
  (if P then (if Q then ((g25 n m w).bind fun v30 => if P then (if Q then ((g26 n m w).bind fun v38 => if v30.2 = v38.2 then ((g23 n (⟨v30.1.c0, v30.1.c1, v30.1.c2⟩ : S5) (⟨v38.1.c0, v38.1.c1, v38.1.c2⟩ : S5)).bind fun v43 => if v43 = true then K else (some false)) else (some false)) else none) else none) else none) else none) = K := by
 simp only [if_pos hp, if_pos hq]
 rcases cut_ok n m w (by omega) (by omega) (by omega) with ⟨_, _, r, e1, e2, _, e3, _⟩ | ⟨_, e1, e2⟩
 ·have := eq_rf n ⟨w.c2, w.c3, r⟩ (by simp only []; omega) (by simp only []; omega)
  simp only [e1, e2, Option.bind_some, if_true, this]
 ·have := eq_rf n ⟨0, 0, []⟩ (by simp) (by simp; omega)
  simp only [e1, e2, Option.bind_some, if_true, this]
theorem l4_1_ok (R : Int → Option Bool) (a5 a6 : Int) (v3 v8 : S5) (v10 v11 v12 v13 v16 v17 : Int) (j : Nat) (hj : j < 2) (h3 : v3.c2.length ≤ 200) (h8 : v8.c2.length ≤ 200) : ∀ (k i : Nat), 5 - i < k → i ≤ 5 → l4_1 n R a5 a6 v3 v8 v10 v11 v12 v13 v16 v17 (j : Int) k (i : Int) = R ((j + 1 : Nat) : Int)
 | 0, _, h, _ => by omega
 | k + 1, i, hk, hi => by
  unfold l4_1
  by_cases c : i < 5
  ·have hm : (rd ([(⟨v3.c0, v3.c1, v3.c2⟩ : S5), (⟨v8.c0, v8.c1, v8.c2⟩ : S5)] : List S5) (j : Int)).c2.length ≤ 200 := by
    have := mem_rd ([(⟨v3.c0, v3.c1, v3.c2⟩ : S5), (⟨v8.c0, v8.c1, v8.c2⟩ : S5)] : List S5) j (by simpa using hj)
    simp only [List.mem_cons, List.not_mem_nil, or_false] at this
    rcases this with e | e <;> rw [e] <;> assumption
   rw [if_pos (show (i : Int) < 5 by omega), wsucc i (by omega)]
   refine (stepC n hn _ _ hm _ (0 ≤ (j : Int) ∧ (j : Int) < 2) (0 ≤ (i : Int) ∧ (i : Int) < 5) (by omega) (by omega)).trans ?_
   exact l4_1_ok R a5 a6 v3 v8 v10 v11 v12 v13 v16 v17 j hj h3 h8 k (i + 1) (by omega) (by omega)
  ·rw [if_neg (by omega), wsucc j (by omega)]
theorem l4_0_ok (a5 a6 a8 : Int) (v3 v8 : S5) (v10 v11 v12 v13 v16 v17 : Int) (hv : Vm v3) (h3 : v3.c2.length ≤ 200) (h8 : v8.c2.length ≤ 200) (h10 : 0 ≤ v10 ∧ v10 < 16) (h11 : 0 ≤ v11 ∧ v11 < 16) (h12 : 0 ≤ v12 ∧ v12 < 11) (h13 : 0 ≤ v13 ∧ v13 < 11) : ∀ (k i : Nat), 2 - i < k → i ≤ 2 → l4_0 n a5 a6 a8 v3 v8 v10 v11 v12 v13 v16 v17 k (i : Int) = some true
 | 0, _, h, _ => by omega
 | k + 1, i, hk, hi => by
  unfold l4_0
  by_cases c : i < 2
  ·rw [if_pos (by omega)]
   refine (l4_1_ok n hn _ a5 a6 v3 v8 v10 v11 v12 v13 v16 v17 i c h3 h8 n 0 (by omega) (by omega)).trans ?_
   exact l4_0_ok a5 a6 a8 v3 v8 v10 v11 v12 v13 v16 v17 hv h3 h8 h10 h11 h12 h13 k (i + 1) (by omega) (by omega)
  ·rw [if_neg (by omega)]
   simp only [wrap_i64 (x := v10 - 4) (by omega) (by omega), wrap_i64 (x := v11 - 4) (by omega) (by omega), wrap_i64 (x := v12 + 1) (by omega) (by omega), wrap_i64 (x := v13 + 1) (by omega) (by omega)]
   obtain ⟨p, ep, p0, p1⟩ := g15_rng n a8 (v12 + 1) (by omega) (by omega)
   obtain ⟨q, eq, q0, q1⟩ := g15_rng n (IntKind.i64.wrap (Int.tdiv a8 11)) (v13 + 1) (by omega) (by omega)
   have W1 : Wn ⟨v10 - 4, v11 - 4, v12, v13⟩ := by unfold Wn Gd; simp only []; omega
   have W2 : Wn ⟨p, q, v12 - p, v13 - q⟩ := by unfold Wn Gd; simp only []; omega
   have W3 : Wn ⟨v10 - 4 + p, v11 - 4 + q, v12 - p, v13 - q⟩ := by unfold Wn Gd; simp only []; omega
   rcases cut_ok n v3 ⟨v10 - 4, v11 - 4, v12, v13⟩ (by omega) (by omega) (by omega) with ⟨_, _, r, e1, _, c1, l1, x1⟩ | ⟨h, _⟩
   ·have V1 : Vm ⟨v12, v13, r⟩ := by
     refine ⟨W1.1, c1, fun s hs => ?_⟩
     have hlt := c1.2 s hs
     have k1 := (x1 s.c0 s.c1).1 ⟨s, hs, rfl, by omega, by omega⟩
     have k2 := (x1 s.c0 (s.c2 - 1)).1 ⟨s, hs, rfl, by omega, by omega⟩
     unfold CutP at k1 k2
     unfold Bn
     simp only [] at k1 k2 ⊢
     omega
    rcases cut_ok n ⟨v12, v13, r⟩ ⟨p, q, v12 - p, v13 - q⟩ (by simp only []; omega) (by simp only []; omega) (by omega) with ⟨_, _, r2, e2, _, c2, l2, x2⟩ | ⟨h, _⟩
    ·rcases cut_ok n v3 ⟨v10 - 4 + p, v11 - 4 + q, v12 - p, v13 - q⟩ (by omega) (by omega) (by omega) with ⟨_, _, r3, e3, _, c3, l3, x3⟩ | ⟨h, _⟩
     ·have : r2 = r3 := can_unique r2 r3 c2 c3 (fun Y X => by
       rw [x2, x3]
       unfold CutP
       simp only [x1]
       unfold CutP
       simp only []
       rw [show Y + (v11 - 4 + q) = Y + q + (v11 - 4) by omega, show X + (v10 - 4 + p) = X + p + (v10 - 4) by omega]
       constructor
       ·rintro ⟨b1, b2, b3, b4, _, _, _, _, b5⟩; exact ⟨b1, b2, b3, b4, b5⟩
       ·rintro ⟨b1, b2, b3, b4, b5⟩; exact ⟨b1, b2, b3, b4, by omega, by omega, by omega, by omega, b5⟩)
      subst this
      have hr := eq2_rf n (by omega) ⟨v12 - p, v13 - q, r2⟩ (by simp only [] at l2 ⊢; omega)
      simp only [etaS5, e1, Option.bind_some, ep, eq, wrap_i64 (x := v12 - p) (by omega) (by omega), wrap_i64 (x := v13 - q) (by omega) (by omega), e2, wrap_i64 (x := v10 - 4 + p) (by omega) (by omega), wrap_i64 (x := v11 - 4 + q) (by omega) (by omega), e3, if_true, hr]
      rfl
     ·exact absurd ⟨hv, W3⟩ h
    ·exact absurd ⟨V1, W2⟩ h
   ·exact absurd ⟨hv, W1⟩ h
end
theorem pureMC (a0 a1 : Int) (a2 : List Int) (a3 a4 a5 a6 a7 a8 : Int) (_ : isI64 a0) (_ : isI64 a1) (_ : ∀ n, n ∈ a2 → isI64 n) (_ : isI64 a3) (_ : isI64 a4) (_ : isI64 a5) (_ : isI64 a6) (_ : isI64 a7) (_ : isI64 a8) : ∃ n, g4 n a0 a1 a2 a3 a4 a5 a6 a7 a8 = some true := by
 refine ⟨5000, ?_⟩
 have hn : 5000 ≤ 5000 := Nat.le_refl _
 generalize hN : 5000 = n at *
 have hn : 5000 ≤ n := by omega
 clear hN
 obtain ⟨w, e1, w1⟩ := number1 n a0 11 (by omega) (by omega)
 obtain ⟨h, e2, h1⟩ := number1 n a1 11 (by omega) (by omega)
 obtain ⟨m, e3, vm, m1, _⟩ := g12_vm n (by omega) w h a2 w1 h1
 obtain ⟨x, e4⟩ := g15_tot n a4 13 (by omega)
 obtain ⟨q, e6, q1⟩ := g14_ok n m a3 (IntKind.i64.wrap (x - 1)) m1
 obtain ⟨v10, f1, f2, f3⟩ := g15_rng n a5 16 (by omega) (by omega)
 obtain ⟨v11, f4, f5, f6⟩ := g15_rng n a6 16 (by omega) (by omega)
 obtain ⟨v12, k1, k2, k3⟩ := number1 n a7 11 (by omega) (by omega)
 obtain ⟨v13, k4, k5, k6⟩ := number1 n (IntKind.i64.wrap (Int.tdiv a7 11)) 11 (by omega) (by omega)
 obtain ⟨v16, j1, _⟩ := g15_rng n a7 4100 (by omega) (by omega)
 obtain ⟨v17, j2, _⟩ := g15_rng n a7 3 (by omega) (by omega)
 unfold g4 g13
 simp only [etaS5, e1, e2, e3, e4, e6, f1, f4, k1, k4, j1, j2, Option.bind_some]
 exact l4_0_ok n hn a5 a6 a8 m q v10 v11 v12 v13 v16 v17 vm (by omega) (by omega) ⟨f2, f3⟩ ⟨f5, f6⟩ ⟨k2, k3⟩ ⟨k5, k6⟩ n 0 (by omega) (by omega)
end Go.Av
end
