/- the plain law, part 4 -/
import Derived.Test.YtjmhdecofadfnaaGreatP3
set_option autoImplicit false
set_option linter.unusedSimpArgs false
set_option linter.unusedVariables false
set_option linter.unnecessarySimpa false
section
namespace Go.Av
theorem lt1_trans {a b c : S1} (h : lt1 a b) (hb : b.c1 < b.c2) (h2 : lt1 b c) : lt1 a c := by
 unfold lt1 at *; omega
def Bn (m : S5) (r : S1) : Prop := 0 ≤ r.c0 ∧ r.c0 < m.c1 ∧ 0 ≤ r.c1 ∧ r.c2 ≤ m.c0
/-- the runs of a valid mask -/
def Vr (m : S5) : Prop := Can m.c2 ∧ ∀ r, r ∈ m.c2 → Bn m r
def Gd (w h : Int) : Prop := 0 ≤ w ∧ w ≤ 4096 ∧ 0 ≤ h ∧ h ≤ 4096
def Vm (m : S5) : Prop := Gd m.c0 m.c1 ∧ Vr m
theorem take_succ_rd (l : List S1) (i : Nat) (h : i < l.length) : l.take (i + 1) = l.take i ++ [rd l (i : Int)] := by
 rw [List.take_succ_eq_append_getElem h, rd_nat l i h]
theorem l17_vm (n : Nat) (m : S5) (hl : m.c2.length ≤ 1000000000) : ∀ (k i : Nat), m.c2.length - i < k → i ≤ m.c2.length → Can (m.c2.take i) → (∀ r, r ∈ m.c2.take i → Bn m r) →
  ∃ v, l17_0 n m k (i : Int) = some v ∧ (v = 0 ∨ v = 1) ∧ (v = 0 ↔ Vr m)
 | 0, _, h, _, _, _ => by omega
 | k + 1, i, hk, hi, hc, hb => by
  unfold l17_0
  by_cases c : i < m.c2.length
  ·have hm := mem_rd m.c2 i c
   have F : ¬ Vr m → ∃ v, (some 1 : Option Int) = some v ∧ (v = 0 ∨ v = 1) ∧ (v = 0 ↔ Vr m) := fun h => ⟨1, rfl, .inr rfl, ⟨fun h => by omega, fun q => absurd q h⟩⟩
   have IH := fun (q : Can (m.c2.take (i + 1))) (q2 : Bn m (rd m.c2 (i : Int))) => l17_vm n m hl k (i + 1) (by omega) (by omega) q (fun r hr => by
    rw [take_succ_rd m.c2 i c] at hr
    rcases List.mem_append.1 hr with hr | hr
    ·exact hb r hr
    ·rw [List.mem_singleton.1 hr]; exact q2)
   have B : Vr m → Bn m (rd m.c2 (i : Int)) := fun h => h.2 _ hm
   have T : Vr m → (rd m.c2 (i : Int)).c1 < (rd m.c2 (i : Int)).c2 := fun h => h.1.2 _ hm
   rw [if_pos (by omega), if_pos (by omega), wsucc i (by omega)]
   by_cases q1 : (rd m.c2 (i : Int)).c0 < 0
   ·rw [if_pos q1]; exact F (fun h => by have := (B h).1; omega)
   rw [if_neg q1]
   by_cases q2 : m.c1 ≤ (rd m.c2 (i : Int)).c0
   ·rw [if_pos q2]; exact F (fun h => by have := (B h).2.1; omega)
   rw [if_neg q2]
   by_cases q3 : (rd m.c2 (i : Int)).c1 < 0
   ·rw [if_pos q3]; exact F (fun h => by have := (B h).2.2.1; omega)
   rw [if_neg q3]
   by_cases q4 : (rd m.c2 (i : Int)).c2 ≤ (rd m.c2 (i : Int)).c1
   ·rw [if_pos q4]; exact F (fun h => by have := T h; omega)
   rw [if_neg q4]
   by_cases q5 : m.c0 < (rd m.c2 (i : Int)).c2
   ·rw [if_pos q5]; exact F (fun h => by have := (B h).2.2.2; omega)
   rw [if_neg q5]
   have hbn : Bn m (rd m.c2 (i : Int)) := ⟨by omega, by omega, by omega, by omega⟩
   by_cases z : 0 < i
   ·have e0 : m.c2.take i = m.c2.take (i - 1) ++ [rd m.c2 ((i - 1 : Nat) : Int)] := by
     have := take_succ_rd m.c2 (i - 1) (by omega)
     rwa [show i - 1 + 1 = i by omega] at this
    have hlt : Vr m → lt1 (rd m.c2 ((i - 1 : Nat) : Int)) (rd m.c2 (i : Int)) := fun h => by
     have := List.pairwise_iff_getElem.1 h.1.1 (i - 1) i (by omega) c (by omega)
     rw [rd_nat m.c2 (i - 1) (by omega), rd_nat m.c2 i c]; exact this
    have G : lt1 (rd m.c2 ((i - 1 : Nat) : Int)) (rd m.c2 (i : Int)) → Can (m.c2.take (i + 1)) := fun h => by
     rw [take_succ_rd m.c2 i c]
     refine can_append_one hc (by omega) (fun s hs => ?_)
     rw [e0] at hs hc
     obtain ⟨_, k1, k2⟩ := can_prefix hc
     rcases List.mem_append.1 hs with hs | hs
     ·exact lt1_trans (k2 s hs) k1 h
     ·rw [List.mem_singleton.1 hs]; exact h
    rw [if_pos (by omega), wpred i (by omega) (by omega), if_pos (by omega)]
    simp only [show (0 : Int) ≤ ((i - 1 : Nat) : Int) ∧ ((i - 1 : Nat) : Int) < (m.c2.length : Int) by omega, and_self, if_true]
    by_cases q6 : (rd m.c2 (i : Int)).c0 < (rd m.c2 ((i - 1 : Nat) : Int)).c0
    ·rw [if_pos q6]; exact F (fun h => by have := hlt h; unfold lt1 at this; omega)
    rw [if_neg q6]
    by_cases q7 : (rd m.c2 ((i - 1 : Nat) : Int)).c0 = (rd m.c2 (i : Int)).c0
    ·rw [if_pos q7]
     by_cases q8 : (rd m.c2 (i : Int)).c1 ≤ (rd m.c2 ((i - 1 : Nat) : Int)).c2
     ·rw [if_pos q8]; exact F (fun h => by have := hlt h; unfold lt1 at this; omega)
     ·rw [if_neg q8]; exact IH (G (.inr ⟨q7, by omega⟩)) hbn
    ·rw [if_neg q7]; exact IH (G (.inl (by omega))) hbn
   ·have : i = 0 := by omega
    subst this
    rw [if_neg (by omega)]
    refine IH ?_ hbn
    rw [take_succ_rd m.c2 0 c]
    exact can_append_one hc (by omega) (fun s hs => by simp at hs)
  ·rw [List.take_of_length_le (by omega)] at hc hb
   rw [if_neg (by omega)]
   exact ⟨0, rfl, .inl rfl, ⟨fun _ => ⟨hc, hb⟩, fun _ => rfl⟩⟩
theorem g46_gd (n : Nat) (w h : Int) : ∃ b, g46 n w h = some b ∧ (b = true ↔ Gd w h) := by
 unfold g46 Gd
 repeat' split
 all_goals exact ⟨_, rfl, by simp; omega⟩
theorem g55_gd (n : Nat) (w h : Int) : ∃ b, g55 n w h = some b ∧ (b = true ↔ Gd w h) := g46_gd n w h
theorem g17_vm (n : Nat) (m : S5) (hl : m.c2.length ≤ 1000000000) (hn : m.c2.length < n) : ∃ v, g16 n m = some v ∧ g17 n m = some v ∧ (v = 0 ∨ v = 1) ∧ (v = 0 ↔ Vm m) := by
 obtain ⟨b, e, hb⟩ := g46_gd n m.c0 m.c1
 obtain ⟨v, e2, h01, hv⟩ := l17_vm n m hl n 0 (by omega) (by omega) ⟨List.Pairwise.nil, by simp⟩ (by simp)
 obtain ⟨v', e3, e4⟩ := l16_17 n m hl n 0 (-1) 0 0 (by omega) (by omega) (fun _ => rfl) (by omega)
 have : v' = v := by rw [e4] at e2; injection e2
 subst this
 unfold g16 g17
 rw [show g55 n m.c0 m.c1 = some b from e, e, Option.bind_some]
 by_cases c : b = true
 ·rw [if_pos c, Option.bind_some, if_pos c]
  exact ⟨v', e3, e2, h01, hv.trans ⟨fun h => ⟨hb.1 c, h⟩, fun h => h.2⟩⟩
 ·rw [if_neg c, Option.bind_some, if_neg c]
  exact ⟨1, rfl, rfl, .inr rfl, ⟨fun h => by omega, fun h => absurd (hb.2 h.1) c⟩⟩
/-- a list of the pixels of a set -/
def IsB (B : List Bool) (W H : Nat) (P : Int → Int → Prop) : Prop := B.length = H * W ∧ ∀ Y X, Bt B W Y X ↔ P Y X
theorem idx_lt {W H y x : Nat} (hy : y < H) (hx : x < W) : y * W + x < H * W := by
 have := Nat.mul_le_mul_right W (show y + 1 ≤ H by omega)
 rw [Nat.succ_mul] at this
 omega
theorem idx_inj {W y x y' x' : Nat} (hx : x < W) (hx' : x' < W) (h : y * W + x = y' * W + x') : y = y' ∧ x = x' := by
 have : y = y' := by
  rcases Nat.lt_trichotomy y y' with c | c | c
  ·have := idx_lt (W := W) c hx; omega
  ·exact c
  ·have := idx_lt (W := W) c hx'; omega
 subst this
 exact ⟨rfl, by omega⟩
theorem bt_lt {B : List Bool} {W H : Nat} (hB : B.length = H * W) {Y X : Int} (h : Bt B W Y X) : Y < (H : Int) := by
 obtain ⟨h1, h2, h3, h4⟩ := h
 by_cases c : Y < (H : Int)
 ·exact c
 ·exfalso
  have : H * W ≤ Y.toNat * W := Nat.mul_le_mul_right W (by omega)
  rw [List.getD_eq_getElem?_getD, List.getElem?_eq_none (by omega)] at h4
  simp at h4
theorem bt_split {B : List Bool} {W H : Nat} (hB : B.length = H * W) {Y X : Int} (h : Bt B W Y X) : ∃ y x : Nat, Y = (y : Int) ∧ X = (x : Int) ∧ y < H ∧ x < W := by
 have := bt_lt hB h
 obtain ⟨h1, h2, h3, _⟩ := h
 exact ⟨Y.toNat, X.toNat, by omega, by omega, by omega, by omega⟩
theorem isB_congr {B : List Bool} {W H : Nat} {P Q : Int → Int → Prop} (h : IsB B W H P) (q : ∀ Y X, 0 ≤ Y → Y < (H : Int) → 0 ≤ X → X < (W : Int) → (P Y X ↔ Q Y X)) (q2 : ∀ Y X, Q Y X → 0 ≤ Y ∧ Y < (H : Int) ∧ 0 ≤ X ∧ X < (W : Int)) : IsB B W H Q := by
 refine ⟨h.1, fun Y X => ⟨fun k => ?_, fun k => ?_⟩⟩
 ·have k2 := bt_lt h.1 k
  exact (q Y X k.1 k2 k.2.1 k.2.2.1).1 ((h.2 Y X).1 k)
 ·have k2 := q2 Y X k
  exact (h.2 Y X).2 ((q Y X k2.1 k2.2.1 k2.2.2.1 k2.2.2.2).2 k)
theorem isB_in {B : List Bool} {W H : Nat} {P : Int → Int → Prop} (h : IsB B W H P) {Y X : Int} (k : P Y X) : 0 ≤ Y ∧ Y < (H : Int) ∧ 0 ≤ X ∧ X < (W : Int) := by
 have k := (h.2 Y X).2 k
 exact ⟨k.1, bt_lt h.1 k, k.2.1, k.2.2.1⟩
theorem isB_none (W H k : Nat) (h : k = H * W) : IsB (List.replicate k false) W H (fun _ _ => False) := by
 refine ⟨by simp [h], fun Y X => ⟨fun ⟨_, _, _, q⟩ => ?_, fun q => q.elim⟩⟩
 rw [List.getD_eq_getElem?_getD, List.getElem?_replicate] at q
 split at q <;> simp at q
theorem isB_set {B : List Bool} {W H : Nat} {P : Int → Int → Prop} (h : IsB B W H P) (y x : Nat) (hy : y < H) (hx : x < W) (v : Bool) :
  IsB (B.set (y * W + x) v) W H (fun Y X => if Y = (y : Int) ∧ X = (x : Int) then v = true else P Y X) := by
 have hlt := idx_lt hy hx
 have hB := h.1
 have hB' : (B.set (y * W + x) v).length = H * W := by rw [List.length_set, hB]
 have K : ∀ y' x' : Nat, y' < H → x' < W → (Bt (B.set (y * W + x) v) W (y' : Int) (x' : Int) ↔ if (y' : Int) = (y : Int) ∧ (x' : Int) = (x : Int) then v = true else P (y' : Int) (x' : Int)) := fun y' x' hy' hx' => by
  rw [bt_nat _ _ _ _ hx', ← h.2, bt_nat _ _ _ _ hx', List.getD_eq_getElem?_getD, List.getElem?_set, List.getD_eq_getElem?_getD]
  by_cases q : y * W + x = y' * W + x'
  ·obtain ⟨rfl, rfl⟩ := idx_inj hx hx' q
   rw [if_pos rfl, if_pos (by omega), if_pos ⟨rfl, rfl⟩]; simp
  ·rw [if_neg q, if_neg (fun k => q (by rw [show y' = y by omega, show x' = x by omega]))]
 refine ⟨hB', fun Y X => ⟨fun k => ?_, fun k => ?_⟩⟩
 ·obtain ⟨y', x', rfl, rfl, q1, q2⟩ := bt_split hB' k
  exact (K y' x' q1 q2).1 k
 ·have : 0 ≤ Y ∧ Y < (H : Int) ∧ 0 ≤ X ∧ X < (W : Int) := by
   by_cases q : Y = (y : Int) ∧ X = (x : Int)
   ·omega
   ·simp only [if_neg q] at k; exact isB_in h k
  have q := (K Y.toNat X.toNat (by omega) (by omega)).2
  rw [show ((Y.toNat : Nat) : Int) = Y by omega, show ((X.toNat : Nat) : Int) = X by omega] at q
  exact q k
theorem wrap_idx {W H y x : Nat} (hM : H * W ≤ 100000000) (hy : y < H) (hx : x < W) : IntKind.i64.wrap (IntKind.i64.wrap ((y : Int) * (W : Int)) + (x : Int)) = ((y * W + x : Nat) : Int) := by
 have := idx_lt hy hx
 have hyw : (y : Int) * (W : Int) = ((y * W : Nat) : Int) := by rw [← Int.natCast_mul]
 rw [hyw, wrap_i64 (x := ((y * W : Nat) : Int)) (by omega) (by omega), wrap_i64 (by omega) (by omega)]; omega
theorem g64_has (n : Nat) (s : S3) (W H : Nat) (P : Int → Int → Prop) (hW : s.c0 = (W : Int)) (hH : s.c1 = (H : Int)) (hM : H * W ≤ 100000000) (h : IsB s.c2 W H P) (X Y : Int) : ∃ b, g64 n s X Y = some b ∧ (b = true ↔ P Y X) := by
 unfold g64
 rw [hW, hH]
 have F : ¬ (0 ≤ Y ∧ Y < (H : Int) ∧ 0 ≤ X ∧ X < (W : Int)) → ∃ b, some false = some b ∧ (b = true ↔ P Y X) := fun q => ⟨false, rfl, by simp; exact fun k => q (isB_in h k)⟩
 by_cases c1 : 0 ≤ X
 ·rw [if_pos c1]
  by_cases c2 : X < (W : Int)
  ·rw [if_pos c2]
   by_cases c3 : 0 ≤ Y
   ·rw [if_pos c3]
    by_cases c4 : Y < (H : Int)
    ·obtain ⟨x, rfl⟩ : ∃ x : Nat, X = (x : Int) := ⟨X.toNat, by omega⟩
     obtain ⟨y, rfl⟩ : ∃ y : Nat, Y = (y : Int) := ⟨Y.toNat, by omega⟩
     have hi := idx_lt (W := W) (H := H) (y := y) (x := x) (by omega) (by omega)
     rw [if_pos c4, wrap_idx hM (by omega) (by omega), if_pos (by rw [h.1]; omega), rd_bool _ _ (by rw [h.1]; exact hi)]
     refine ⟨_, rfl, ?_⟩
     rw [← h.2, bt_nat _ _ _ _ (by omega)]
    ·rw [if_neg c4]; exact F (by omega)
   ·rw [if_neg c3]; exact F (by omega)
  ·rw [if_neg c2]; exact F (by omega)
 ·rw [if_neg c1]; exact F (by omega)
/-- Of of the reference: a run -/
theorem l63_1_ok (n : Nat) (R : Int → List Bool → Option S3) (m : S5) (W H i : Nat) (Q : S3 → Prop) (P : Int → Int → Prop) (hW : m.c0 = (W : Int)) (hH : m.c1 = (H : Int)) (hM : H * W ≤ 100000000) (hi : i < m.c2.length) (hi2 : i < 1000000000) (hb : Bn m (rd m.c2 (i : Int))) (hW4 : W ≤ 100000)
  (hR : ∀ B, IsB B W H (fun Y X => P Y X ∨ In1 (rd m.c2 (i : Int)) Y X) → ∃ s, R ((i + 1 : Nat) : Int) B = some s ∧ Q s) : ∀ (k x : Nat) (B : List Bool), W - x < k → (rd m.c2 (i : Int)).c1 ≤ (x : Int) → IsB B W H (fun Y X => P Y X ∨ (In1 (rd m.c2 (i : Int)) Y X ∧ X < (x : Int))) → ∃ s, l63_1 n R m (i : Int) k (x : Int) B = some s ∧ Q s
 | 0, _, _, h, _, _ => by omega
 | k + 1, x, B, hk, hx, hI => by
  obtain ⟨b0, b1, b2, b3⟩ := hb
  unfold l63_1
  rw [if_pos (show (0 : Int) ≤ (i : Int) ∧ (i : Int) < (m.c2.length : Int) by omega)]
  by_cases c : (x : Int) < (rd m.c2 (i : Int)).c2
  ·obtain ⟨y, ey⟩ : ∃ y : Nat, (rd m.c2 (i : Int)).c0 = (y : Int) := ⟨(rd m.c2 (i : Int)).c0.toNat, by omega⟩
   have hy : y < H := by omega
   have hxW : x < W := by omega
   have hi := idx_lt hy hxW
   rw [if_pos c, if_pos (by omega), hW, ey, wrap_idx hM hy hxW, Int.toNat_natCast, if_pos (by rw [hI.1]; omega), if_pos (by rw [hI.1]; omega), wsucc x (by omega)]
   refine l63_1_ok n R m W H i Q P hW hH hM (by omega) hi2 ⟨b0, b1, b2, b3⟩ hW4 hR k (x + 1) _ (by omega) (by omega) (isB_congr (isB_set hI y x hy hxW true) (fun Y X _ _ _ _ => ?_) (fun Y X q => ?_))
   ·unfold In1
    by_cases q : Y = (y : Int) ∧ X = (x : Int)
    ·rw [if_pos q]
     simp only [true_iff]
     exact .inr (by omega)
    ·rw [if_neg q]
     have : (((rd m.c2 (i : Int)).c0 = Y ∧ (rd m.c2 (i : Int)).c1 ≤ X ∧ X < (rd m.c2 (i : Int)).c2) ∧ X < (x : Int)) ↔ (((rd m.c2 (i : Int)).c0 = Y ∧ (rd m.c2 (i : Int)).c1 ≤ X ∧ X < (rd m.c2 (i : Int)).c2) ∧ X < ((x + 1 : Nat) : Int)) := by omega
     rw [this]
   ·rcases q with q | ⟨⟨q0, q1, q2⟩, q3⟩
    ·exact isB_in hI (.inl q)
    ·omega
  ·rw [if_neg c, wsucc i (by omega)]
   refine hR B (isB_congr hI (fun Y X _ _ _ _ => ?_) (fun Y X q => ?_))
   ·unfold In1
    have : (((rd m.c2 (i : Int)).c0 = Y ∧ (rd m.c2 (i : Int)).c1 ≤ X ∧ X < (rd m.c2 (i : Int)).c2) ∧ X < (x : Int)) ↔ ((rd m.c2 (i : Int)).c0 = Y ∧ (rd m.c2 (i : Int)).c1 ≤ X ∧ X < (rd m.c2 (i : Int)).c2) := by omega
    rw [this]
   ·rcases q with q | ⟨q0, q1, q2⟩
    ·exact isB_in hI (.inl q)
    ·omega
theorem px_take_succ (l : List S1) (i : Nat) (h : i < l.length) (Y X : Int) : Px (l.take (i + 1)) Y X ↔ Px (l.take i) Y X ∨ In1 (rd l (i : Int)) Y X := by
 rw [take_succ_rd l i h, px_append, px_one]
theorem l63_0_ok (n : Nat) (m : S5) (W H : Nat) (hW : m.c0 = (W : Int)) (hH : m.c1 = (H : Int)) (hM : H * W ≤ 100000000) (hl : m.c2.length ≤ 1000000000) (hb : ∀ r, r ∈ m.c2 → Bn m r) (hW4 : W ≤ 100000) (hn : W < n) : ∀ (k i : Nat) (B : List Bool), m.c2.length - i < k → i ≤ m.c2.length → IsB B W H (fun Y X => Px (m.c2.take i) Y X) → ∃ s, l63_0 n m k (i : Int) B = some s ∧ ∃ B', s = ⟨(W : Int), (H : Int), B'⟩ ∧ IsB B' W H (Px m.c2)
 | 0, _, _, h, _, _ => by omega
 | k + 1, i, B, hk, hi, hI => by
  unfold l63_0
  by_cases c : i < m.c2.length
  ·have hbi := hb _ (mem_rd m.c2 i c)
   have b1 := hbi.2.2.1
   rw [if_pos (by omega), if_pos (by omega), show (rd m.c2 (i : Int)).c1 = (((rd m.c2 (i : Int)).c1.toNat : Nat) : Int) by omega]
   refine l63_1_ok n (l63_0 n m k) m W H i _ (Px (m.c2.take i)) hW hH hM c (by omega) hbi hW4 (fun B' h => ?_) n _ B (by omega) (by omega) (isB_congr hI (fun Y X _ _ _ _ => ?_) (fun Y X q => ?_))
   ·exact l63_0_ok n m W H hW hH hM hl hb hW4 hn k (i + 1) B' (by omega) (by omega) ⟨h.1, fun Y X => (h.2 Y X).trans (px_take_succ m.c2 i c Y X).symm⟩
   ·constructor
    ·exact .inl
    ·rintro (q | ⟨⟨q0, q1, q2⟩, q3⟩)
     ·exact q
     ·omega
   ·rcases q with q | ⟨⟨q0, q1, q2⟩, q3⟩
    ·exact isB_in hI q
    ·omega
  ·rw [List.take_of_length_le (by omega)] at hI
   rw [if_neg (by omega), hW, hH]
   exact ⟨_, rfl, _, rfl, hI⟩
theorem gd_nat {w h : Int} (g : Gd w h) : ∃ W H : Nat, w = (W : Int) ∧ h = (H : Int) ∧ W ≤ 4096 ∧ H ≤ 4096 ∧ H * W ≤ 100000000 ∧ IntKind.i64.wrap (w * h) = ((H * W : Nat) : Int) := by
 obtain ⟨g1, g2, g3, g4⟩ := g
 obtain ⟨W, rfl⟩ : ∃ W : Nat, w = (W : Int) := ⟨w.toNat, by omega⟩
 obtain ⟨H, rfl⟩ : ∃ H : Nat, h = (H : Int) := ⟨h.toNat, by omega⟩
 have hm : H * W ≤ 4096 * 4096 := Nat.mul_le_mul (by omega) (by omega)
 refine ⟨W, H, rfl, rfl, by omega, by omega, by omega, ?_⟩
 rw [show (W : Int) * (H : Int) = ((H * W : Nat) : Int) by rw [← Int.natCast_mul, Nat.mul_comm], wrap_i64 (by omega) (by omega)]
theorem g63_ok (n : Nat) (m : S5) (h : Vm m) (hl : m.c2.length ≤ 1000000000) (hln : m.c2.length < n) (hn : 4096 < n) : ∃ W H : Nat, ∃ B, m.c0 = (W : Int) ∧ m.c1 = (H : Int) ∧ W ≤ 4096 ∧ H ≤ 4096 ∧ H * W ≤ 100000000 ∧ g63 n m = some ⟨(W : Int), (H : Int), B⟩ ∧ IsB B W H (Px m.c2) := by
 obtain ⟨W, H, hW, hH, w4, h4, hM, e⟩ := gd_nat h.1
 obtain ⟨s, es, B, rfl, hB⟩ := l63_0_ok n m W H hW hH hM hl h.2.2 (by omega) (by omega) n 0 (List.replicate (H * W) false) (by omega) (by omega) (isB_congr (isB_none W H _ rfl) (fun Y X _ _ _ _ => by simp [px_nil]) (fun Y X q => by simp [px_nil] at q))
 refine ⟨W, H, B, hW, hH, w4, h4, hM, ?_, hB⟩
 unfold g63
 rw [e, if_pos (by omega), Int.toNat_natCast]
 exact es
end Go.Av
end
