/- the plain law, part 6 -/
import Derived.Test.YtjmhdecofadfnaaGreatP5
set_option autoImplicit false
set_option linter.unusedSimpArgs false
set_option linter.unusedVariables false
set_option linter.unnecessarySimpa false
section
namespace Go.Av
theorem l12_P (n : Nat) (P : S5 → Prop) (W H : Nat) (a2 : List Int) (h1 : W ≤ 10) (h2 : H ≤ 10) (hP : ∀ B : List Bool, B.length = H * W → ∃ m, g53 n ⟨(W : Int), (H : Int), B⟩ = some m ∧ P m) : ∀ (k i : Nat) (B : List Bool), B.length = H * W → B.length - i < k → i ≤ B.length → ∃ m, l12_0 n (W : Int) (H : Int) a2 k (i : Int) B = some m ∧ P m
 | 0, _, _, _, h, _ => by omega
 | k + 1, i, B, hB, hk, hi => by
  have hw : H * W ≤ 10 * 10 := Nat.mul_le_mul h2 h1
  have G : ∃ m, ((g53 n (⟨(W : Int), (H : Int), B⟩ : S3)).bind fun v => some (⟨v.c0, v.c1, v.c2⟩ : S5)) = some m ∧ P m := by
   obtain ⟨m, e, hm⟩ := hP B hB
   rw [e]; exact ⟨_, rfl, hm⟩
  unfold l12_0
  by_cases c : i < B.length
  ·by_cases z : 0 < (a2.length : Int)
   ·have t0 := Int.tmod_nonneg (a2.length : Int) (show (0 : Int) ≤ (i : Int) by omega)
    have t1 := Int.tmod_lt_of_pos (i : Int) z
    have IH := fun (B' : List Bool) (h : B'.length = B.length) => l12_P n P W H a2 h1 h2 hP k (i + 1) B' (by omega) (by omega) (by omega)
    have hc : (0 : Int) ≤ (i : Int) ∧ (i : Int) < (B.length : Int) := by omega
    rw [if_pos (by omega), if_pos z, if_pos (by omega), if_pos ⟨t0, t1⟩, if_pos (by omega)]
    simp only [hc, Int.toNat_natCast, c, and_self, if_true, wsucc i (by omega)]
    repeat' split
    all_goals exact IH _ (by simp)
   ·rw [if_pos (by omega), if_neg z]; exact G
  ·rw [if_neg (by omega)]; exact G
theorem g12_vm (n : Nat) (hn : 4000 ≤ n) (w h : Int) (a2 : List Int) (w0 : 0 ≤ w ∧ w < 11) (h0 : 0 ≤ h ∧ h < 11) : ∃ m, g12 n w h a2 = some m ∧ Vm m ∧ m.c2.length ≤ 100 ∧ m.c0 = w ∧ m.c1 = h := by
 obtain ⟨W, rfl⟩ : ∃ W : Nat, w = (W : Int) := ⟨w.toNat, by omega⟩
 obtain ⟨H, rfl⟩ : ∃ H : Nat, h = (H : Int) := ⟨h.toNat, by omega⟩
 have hw : W * H ≤ 10 * 10 := Nat.mul_le_mul (by omega) (by omega)
 have hw2 : H * W ≤ 10 * 10 := Nat.mul_le_mul (by omega) (by omega)
 have e : IntKind.i64.wrap ((W : Int) * (H : Int)) = ((W * H : Nat) : Int) := by rw [← Int.natCast_mul, wrap_i64 (by omega) (by omega)]
 unfold g12
 rw [e, if_pos (by omega), Int.toNat_natCast]
 refine l12_P n (fun m => Vm m ∧ m.c2.length ≤ 100 ∧ m.c0 = (W : Int) ∧ m.c1 = (H : Int)) W H a2 (by omega) (by omega) (fun B hB => ?_) n 0 _ (by rw [List.length_replicate, Nat.mul_comm]) (by simp; omega) (by omega)
 obtain ⟨r, e1, e2, e3, e4⟩ := g53_px n ⟨(W : Int), (H : Int), B⟩ W H rfl rfl hB (by omega) (by omega) (by omega) (by omega) (by omega)
 refine ⟨_, e1, ⟨⟨by simp only []; omega, by simp only []; omega, by simp only []; omega, by simp only []; omega⟩, e2, fun s hs => ?_⟩, by simp only []; omega, rfl, rfl⟩
 have hlt := e2.2 s hs
 obtain ⟨⟨k1, k2, k3, k4⟩, k5⟩ := (e4 s.c0 s.c1).1 ⟨s, hs, rfl, by omega, by omega⟩
 obtain ⟨⟨j1, j2, j3, j4⟩, j5⟩ := (e4 s.c0 (s.c2 - 1)).1 ⟨s, hs, rfl, by omega, by omega⟩
 unfold Bn
 simp only []
 omega
theorem l23_rf (n : Nat) (a : S5) (hl : a.c2.length ≤ 1000000000) : ∀ (k i : Nat), a.c2.length - i < k → i ≤ a.c2.length → l23_0 n a a k (i : Int) = some true
 | 0, _, h, _ => by omega
 | k + 1, i, hk, hi => by
  unfold l23_0
  by_cases c : i < a.c2.length
  ·rw [if_pos (by omega), if_pos (by omega), if_pos (by omega), if_pos ⟨rfl, rfl, rfl⟩, wsucc i (by omega)]
   exact l23_rf n a hl k (i + 1) (by omega) (by omega)
  ·rw [if_neg (by omega)]
theorem eq_rf (n : Nat) (a : S5) (hl : a.c2.length ≤ 1000000000) (hn : a.c2.length < n) : g23 n a a = some true := by
 unfold g23
 rw [if_pos rfl, if_pos rfl, if_pos rfl]
 exact l23_rf n a hl n 0 (by omega) (by omega)
theorem eq2_rf (n : Nat) (hn : 4000 ≤ n) (a : S5) (hl : a.c2.length ≤ 3200) : g22 n a a = some true := by
 obtain ⟨v, h1, h2⟩ := equal_ok n hn a a hl
 rw [h1, ← h2]; exact eq_rf n a (by omega) (by omega)
section
variable (n : Nat) (hn : 5000 ≤ n)
include hn
end
end Go.Av
end
