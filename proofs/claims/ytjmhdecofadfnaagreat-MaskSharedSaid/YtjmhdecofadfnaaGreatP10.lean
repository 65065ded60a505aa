/- the plain law, part 10 -/
import Derived.Test.YtjmhdecofadfnaaGreatP9
set_option autoImplicit false
set_option linter.unusedSimpArgs false
set_option linter.unusedVariables false
set_option linter.unnecessarySimpa false
section
namespace Go.Av
theorem l94_0_1_ok (n : Nat) (hn : 90000 ≤ n) (R : Int → List S1 → Option (S5 × Int)) (v11 v13 : List (List S1)) (y : Nat) (es : List Int) (Q : S5 × Int → Prop) (P0 : Int → Int → Prop) (A : Nat)
  (hy : y < 5000) (h11 : y < v11.length) (h13 : y < v13.length) (hp : Row (rd v11 (y : Int))) (hq : Row (rd v13 (y : Int))) (lp : (rd v11 (y : Int)).length ≤ 20000) (lq : (rd v13 (y : Int)).length ≤ 20000) (hE : Se (rd v11 (y : Int)) (rd v13 (y : Int)) es) (hA : A + es.length ≤ 999999990)
  (hR : ∀ r, Can r → Bd r ((y + 1 : Nat) : Int) (-1) → r.length ≤ A + es.length → (∀ Y X, Px r Y X ↔ P0 Y X ∨ (Y = (y : Int) ∧ KP 0 (InX (rd v11 (y : Int)) X) (InX (rd v13 (y : Int)) X))) → ∃ m, R ((y + 1 : Nat) : Int) r = some m ∧ Q m) :
  ∀ (k i : Nat) (acc : List S1), es.length - i < k → 1 ≤ i → i ≤ es.length → Can acc → Bd acc (y : Int) (rd es ((i - 1 : Nat) : Int)) → acc.length ≤ A + i →
   (∀ Y X, Px acc Y X ↔ P0 Y X ∨ (Y = (y : Int) ∧ X < rd es ((i - 1 : Nat) : Int) ∧ KP 0 (InX (rd v11 (y : Int)) X) (InX (rd v13 (y : Int)) X))) →
   ∃ m, l94_0_1 n R v11 v13 (y : Int) es k (i : Int) acc = some m ∧ Q m
 | 0, _, _, h, _, _, _, _, _, _ => by omega
 | k + 1, i, acc, hk, h1, hi, hc, hb, hl, hpx => by
  have hlen := hE.len
  unfold l94_0_1
  by_cases c : i < es.length
  ·have rg := hE.rng (i - 1) (by omega)
   have ss := hE.srt (i - 1) i (by omega) c
   obtain ⟨b1, e1, q1⟩ := in_ok n (rd v11 (y : Int)) (rd es ((i - 1 : Nat) : Int)) hp (by omega) (by omega) (by omega)
   obtain ⟨b2, e2, q2⟩ := in_ok n (rd v13 (y : Int)) (rd es ((i - 1 : Nat) : Int)) hq (by omega) (by omega) (by omega)
   obtain ⟨v, e3, q3⟩ := keep0 n b1 b2
   have hv : v = true ↔ KP 0 (InX (rd v11 (y : Int)) (rd es ((i - 1 : Nat) : Int))) (InX (rd v13 (y : Int)) (rd es ((i - 1 : Nat) : Int))) := q3.trans (kp_congr 0 q1 q2)
   have const : ∀ X, rd es ((i - 1 : Nat) : Int) ≤ X → X < rd es (i : Int) → (KP 0 (InX (rd v11 (y : Int)) X) (InX (rd v13 (y : Int)) X) ↔ v = true) := fun X x1 x2 => by
    obtain ⟨k1, k2⟩ := inX_const hE h1 c x1 x2
    rw [hv]; exact kp_congr 0 k1 k2
   have IH := fun (acc' : List S1) (w1 : Can acc') (w2 : Bd acc' (y : Int) (rd es ((i : Nat) : Int))) (w3 : acc'.length ≤ A + (i + 1)) (w4 : ∀ Y X, Px acc' Y X ↔ P0 Y X ∨ (Y = (y : Int) ∧ X < rd es ((i : Nat) : Int) ∧ KP 0 (InX (rd v11 (y : Int)) X) (InX (rd v13 (y : Int)) X))) =>
    l94_0_1_ok n hn R v11 v13 y es Q P0 A hy h11 h13 hp hq lp lq hE hA hR k (i + 1) acc' (by omega) (by omega) (by omega) w1 w2 w3 w4
   have g1 : (0 : Int) ≤ ((i - 1 : Nat) : Int) ∧ ((i - 1 : Nat) : Int) < (es.length : Int) := by omega
   have g2 : (0 : Int) ≤ (y : Int) ∧ (y : Int) < (v11.length : Int) := by omega
   have g3 : (0 : Int) ≤ (y : Int) ∧ (y : Int) < (v13.length : Int) := by omega
   have g4 : (0 : Int) ≤ (i : Int) ∧ (i : Int) < (es.length : Int) := by omega
   rw [if_pos (by omega), wpred i (by omega) h1, if_pos g2, if_pos g1, if_pos g3, if_pos g1, e1, Option.bind_some, e2, Option.bind_some, e3, Option.bind_some, wsucc i (by omega)]
   by_cases d : v = true
   ·rw [if_pos d, if_pos g1, if_pos g4]
    refine (congrArg (fun o => ∃ m, o = some m ∧ Q m) (span_code (l94_0_1 n R v11 v13 (y : Int) es k ((i + 1 : Nat) : Int)) acc (y : Int) (rd es ((i - 1 : Nat) : Int)) (rd es (i : Int)) (by omega))).mpr ?_
    obtain ⟨s1, s2, s3, s4⟩ := span_ok acc (y : Int) (rd es ((i - 1 : Nat) : Int)) (rd es (i : Int)) hc hb
    refine IH _ s1 (bd_mono s2 (.inr ⟨rfl, ss⟩)) (by omega) (fun Y X => ?_)
    rw [s3, hpx, or_assoc]
    have : ((Y = (y : Int) ∧ X < rd es ((i - 1 : Nat) : Int) ∧ KP 0 (InX (rd v11 (y : Int)) X) (InX (rd v13 (y : Int)) X)) ∨ (Y = (y : Int) ∧ rd es ((i - 1 : Nat) : Int) ≤ X ∧ X < rd es (i : Int))) ↔ (Y = (y : Int) ∧ X < rd es (i : Int) ∧ KP 0 (InX (rd v11 (y : Int)) X) (InX (rd v13 (y : Int)) X)) := by
     constructor
     ·rintro (⟨a1, a2, a3⟩ | ⟨a1, a2, a3⟩)
      ·exact ⟨a1, by omega, a3⟩
      ·exact ⟨a1, a3, (const X a2 a3).2 d⟩
     ·rintro ⟨a1, a2, a3⟩
      by_cases w : X < rd es ((i - 1 : Nat) : Int)
      ·exact .inl ⟨a1, w, a3⟩
      ·exact .inr ⟨a1, by omega, a2⟩
    rw [this]
   ·rw [if_neg d]
    refine IH acc hc (bd_mono hb (.inr ⟨rfl, ss⟩)) (by omega) (fun Y X => ?_)
    rw [hpx]
    have : (Y = (y : Int) ∧ X < rd es ((i - 1 : Nat) : Int) ∧ KP 0 (InX (rd v11 (y : Int)) X) (InX (rd v13 (y : Int)) X)) ↔ (Y = (y : Int) ∧ X < rd es (i : Int) ∧ KP 0 (InX (rd v11 (y : Int)) X) (InX (rd v13 (y : Int)) X)) := by
     constructor
     ·rintro ⟨a1, a2, a3⟩; exact ⟨a1, by omega, a3⟩
     ·rintro ⟨a1, a2, a3⟩
      by_cases w : X < rd es ((i - 1 : Nat) : Int)
      ·exact ⟨a1, w, a3⟩
      ·exact absurd ((const X (by omega) a2).1 a3) d
    rw [this]
  ·have : i = es.length := by omega
   rw [if_neg (by omega), wsucc y (by omega)]
   refine hR acc hc (bd_mono hb (.inl (by omega))) (by omega) (fun Y X => ?_)
   rw [hpx]
   have : (Y = (y : Int) ∧ X < rd es ((i - 1 : Nat) : Int) ∧ KP 0 (InX (rd v11 (y : Int)) X) (InX (rd v13 (y : Int)) X)) ↔ (Y = (y : Int) ∧ KP 0 (InX (rd v11 (y : Int)) X) (InX (rd v13 (y : Int)) X)) := by
    constructor
    ·rintro ⟨a1, a2, a3⟩; exact ⟨a1, a3⟩
    ·rintro ⟨a1, a3⟩
     have := inX_rng hE (kp_any 0 a3)
     exact ⟨a1, by rw [‹i = es.length›]; exact this.2.2, a3⟩
   rw [this]
theorem l94_0_0_ok (n : Nat) (hn : 90000 ≤ n) (a b : S5) (H : Nat) (hH : a.c1 = (H : Int)) (h4 : H ≤ 4096) (ha : Vm a) (hb : Vm b) (la : a.c2.length ≤ 20000) (lb : b.c2.length ≤ 20000) (v11 v13 : List (List S1)) (l11 : v11.length = H) (l13 : v13.length = H)
  (r11 : ∀ y : Nat, y < H → rd v11 (y : Int) = rowF a.c2 (y : Int)) (r13 : ∀ y : Nat, y < H → rd v13 (y : Int) = rowF b.c2 (y : Int)) : ∀ (k y : Nat) (acc : List S1), H - y < k → y ≤ H → Can acc → Bd acc (y : Int) (-1) → acc.length ≤ y * 100000 →
   (∀ Y X, Px acc Y X ↔ 0 ≤ Y ∧ Y < (y : Int) ∧ KP 0 (Px a.c2 Y X) (Px b.c2 Y X)) →
   ∃ m, l94_0_0 n a v11 v13 k (y : Int) acc = some m ∧ ∃ r, m = (⟨a.c0, (H : Int), r⟩, 0) ∧ Can r ∧ ∀ Y X, Px r Y X ↔ 0 ≤ Y ∧ Y < (H : Int) ∧ KP 0 (Px a.c2 Y X) (Px b.c2 Y X)
 | 0, _, _, h, _, _, _, _, _ => by omega
 | k + 1, y, acc, hk, hy, hc, hbd, hl, hpx => by
  unfold l94_0_0
  rw [hH]
  by_cases c : y < H
  ·obtain ⟨A, hA⟩ : ∃ A, A = y * 100000 := ⟨_, rfl⟩
   rw [← hA] at hl
   have e11 := r11 y c
   have e13 := r13 y c
   have rp := row_rowF ha (y : Int)
   have rq := row_rowF hb (y : Int)
   have lp := rowF_len a.c2 (y : Int)
   have lq := rowF_len b.c2 (y : Int)
   have hends := ends_ok n (rowF a.c2 (y : Int)) (rowF b.c2 (y : Int)) (by omega) (by omega) (by omega)
   have hse := se_ok _ _ rp rq
   rw [if_pos (by omega), if_pos (by omega), if_pos (by omega), e11, e13, hends, Option.bind_some]
   generalize List.mergeSort (Es (rowF a.c2 (y : Int)) ++ Es (rowF b.c2 (y : Int))) (fun x y => decide (x ≤ y)) = es at hse
   have hlen := hse.len
   have cont : ∀ r, Can r → Bd r ((y + 1 : Nat) : Int) (-1) → r.length ≤ A + es.length → (∀ Y X, Px r Y X ↔ (0 ≤ Y ∧ Y < (y : Int) ∧ KP 0 (Px a.c2 Y X) (Px b.c2 Y X)) ∨ (Y = (y : Int) ∧ KP 0 (InX (rd v11 (y : Int)) X) (InX (rd v13 (y : Int)) X))) →
     ∃ m, l94_0_0 n a v11 v13 k ((y + 1 : Nat) : Int) r = some m ∧ ∃ r, m = (⟨a.c0, (H : Int), r⟩, 0) ∧ Can r ∧ ∀ Y X, Px r Y X ↔ 0 ≤ Y ∧ Y < (H : Int) ∧ KP 0 (Px a.c2 Y X) (Px b.c2 Y X) := fun r w1 w2 w3 w4 => by
    refine l94_0_0_ok n hn a b H hH h4 ha hb la lb v11 v13 l11 l13 r11 r13 k (y + 1) r (by omega) (by omega) w1 w2 (by omega) (fun Y X => ?_)
    rw [w4]
    constructor
    ·rintro (⟨a1, a2, a3⟩ | ⟨rfl, a3⟩)
     ·exact ⟨a1, by omega, a3⟩
     ·rw [e11, e13] at a3
      exact ⟨by omega, by omega, (kp_congr 0 (inX_rowF a.c2 _ X) (inX_rowF b.c2 _ X)).1 a3⟩
    ·rintro ⟨a1, a2, a3⟩
     by_cases w : Y = (y : Int)
     ·subst w
      refine .inr ⟨rfl, ?_⟩
      rw [e11, e13]
      exact (kp_congr 0 (inX_rowF a.c2 _ X) (inX_rowF b.c2 _ X)).2 a3
     ·exact .inl ⟨a1, by omega, a3⟩
   by_cases z : 0 < es.length
   ·have r0 := hse.rng 0 z
    refine l94_0_1_ok n hn (l94_0_0 n a v11 v13 k) v11 v13 y es _ (fun Y X => 0 ≤ Y ∧ Y < (y : Int) ∧ KP 0 (Px a.c2 Y X) (Px b.c2 Y X)) A (by omega) (by omega) (by omega) (by rw [e11]; exact rp) (by rw [e13]; exact rq) (by rw [e11]; omega) (by rw [e13]; omega) (by rw [e11, e13]; exact hse) (by omega) cont n 1 acc (by omega) (by omega) (by omega) hc (bd_mono hbd (.inr ⟨rfl, by show (-1 : Int) ≤ rd es ((0 : Nat) : Int); omega⟩)) (by omega) (fun Y X => ?_)
    rw [hpx]
    constructor
    ·exact .inl
    ·rintro (h | ⟨_, h2, h3⟩)
     ·exact h
     ·have := (inX_rng (by rw [e11, e13]; exact hse) (kp_any 0 h3)).2.1
      have h2 : X < rd es ((0 : Nat) : Int) := h2
      omega
   ·have hz : es.length = 0 := by omega
    obtain ⟨k2, hk2⟩ : ∃ k2, n = k2 + 1 := ⟨n - 1, by omega⟩
    rw [show l94_0_1 n (l94_0_0 n a v11 v13 k) v11 v13 (y : Int) es n 1 acc = l94_0_0 n a v11 v13 k ((y + 1 : Nat) : Int) acc by
     rw [hk2]; unfold l94_0_1; rw [hz, if_neg (by omega), wsucc y (by omega)]]
    refine cont acc hc (bd_mono hbd (.inl (by omega))) (by omega) (fun Y X => ?_)
    rw [hpx]
    constructor
    ·exact .inl
    ·rintro (h | ⟨_, h3⟩)
     ·exact h
     ·have := (inX_rng (by rw [e11, e13]; exact hse) (kp_any 0 h3)).1
      omega
  ·have : y = H := by omega
   subst this
   rw [if_neg (by omega)]
   exact ⟨_, rfl, acc, rfl, hc, hpx⟩
end Go.Av
end
