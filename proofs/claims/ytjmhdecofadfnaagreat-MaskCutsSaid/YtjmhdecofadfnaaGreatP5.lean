/- the plain law, part 5 -/
import Derived.Test.YtjmhdecofadfnaaGreatP4
set_option autoImplicit false
set_option linter.unusedSimpArgs false
set_option linter.unusedVariables false
set_option linter.unnecessarySimpa false
section
namespace Go.Av
def Wn (w : S9) : Prop := Gd w.c2 w.c3 ∧ -1048576 ≤ w.c0 ∧ w.c0 ≤ 1048576 ∧ -1048576 ≤ w.c1 ∧ w.c1 ≤ 1048576
theorem drop_rd {α : Type} [Inhabited α] (l : List α) (i : Nat) (h : i < l.length) : l.drop i = rd l (i : Int) :: l.drop (i + 1) := by
 rw [rd_nat l i h]; exact List.drop_eq_getElem_cons h
/-- the pixels of a cut -/
def CutP (l : List S1) (w : S9) (Y X : Int) : Prop := 0 ≤ Y ∧ Y < w.c3 ∧ 0 ≤ X ∧ X < w.c2 ∧ Px l (Y + w.c1) (X + w.c0)
theorem l25_0_ok (n : Nat) (m : S5) (w : S9) (hm : Vm m) (hw : Wn w) (hl : m.c2.length ≤ 100000000) : ∀ (k i : Nat) (acc : List S1), m.c2.length - i < k → i ≤ m.c2.length → Can acc → (∀ r, r ∈ m.c2.drop i → Bd acc (r.c0 - w.c1) (if 0 > r.c1 - w.c0 then 0 else r.c1 - w.c0)) → acc.length ≤ i →
  ∃ r, l25_0 n m w k (i : Int) acc = some (⟨w.c2, w.c3, r⟩, 0) ∧ Can r ∧ r.length ≤ m.c2.length ∧ ∀ Y X, Px r Y X ↔ Px acc Y X ∨ CutP (m.c2.drop i) w Y X
 | 0, _, _, h, _, _, _, _ => by omega
 | k + 1, i, acc, hk, hi, hc, hb, hacc => by
  unfold l25_0
  by_cases c : i < m.c2.length
  ·have hr := hm.2.2 _ (mem_rd m.c2 i c)
   have hlt := hm.2.1.2 _ (mem_rd m.c2 i c)
   obtain ⟨r0, r1, r2, r3⟩ := hr
   obtain ⟨⟨g1, g2, g3, g4⟩, w1, w2, w3, w4⟩ := hw
   obtain ⟨⟨g5, g6, g7, g8⟩, hcan, _⟩ := hm
   have e := drop_rd m.c2 i c
   have hpw : ∀ s, s ∈ m.c2.drop (i + 1) → lt1 (rd m.c2 (i : Int)) s := by
    have := hcan.1.sublist (List.drop_sublist i m.c2)
    rw [e] at this
    exact (List.pairwise_cons.1 this).1
   have bi := hb (rd m.c2 (i : Int)) (by rw [e]; exact List.mem_cons_self ..)
   have S : ∀ Y X, CutP (m.c2.drop i) w Y X ↔ (0 ≤ Y ∧ Y < w.c3 ∧ 0 ≤ X ∧ X < w.c2 ∧ In1 (rd m.c2 (i : Int)) (Y + w.c1) (X + w.c0)) ∨ CutP (m.c2.drop (i + 1)) w Y X := fun Y X => by
    unfold CutP
    rw [e, px_cons]
    constructor
    ·rintro ⟨a1, a2, a3, a4, a5 | a5⟩
     ·exact .inl ⟨a1, a2, a3, a4, a5⟩
     ·exact .inr ⟨a1, a2, a3, a4, a5⟩
    ·rintro (⟨a1, a2, a3, a4, a5⟩ | ⟨a1, a2, a3, a4, a5⟩)
     ·exact ⟨a1, a2, a3, a4, .inl a5⟩
     ·exact ⟨a1, a2, a3, a4, .inr a5⟩
   have IH := fun (acc' : List S1) (q1 : Can acc') (q2 : ∀ r, r ∈ m.c2.drop (i + 1) → Bd acc' (r.c0 - w.c1) (if 0 > r.c1 - w.c0 then 0 else r.c1 - w.c0)) (q3 : acc'.length ≤ i + 1) => l25_0_ok n m w ⟨⟨g5, g6, g7, g8⟩, hcan, by assumption⟩ ⟨⟨g1, g2, g3, g4⟩, w1, w2, w3, w4⟩ hl k (i + 1) acc' (by omega) (by omega) q1 q2 q3
   have skip : (∀ Y X, ¬ (0 ≤ Y ∧ Y < w.c3 ∧ 0 ≤ X ∧ X < w.c2 ∧ In1 (rd m.c2 (i : Int)) (Y + w.c1) (X + w.c0))) → ∃ r, l25_0 n m w k ((i + 1 : Nat) : Int) acc = some (⟨w.c2, w.c3, r⟩, 0) ∧ Can r ∧ r.length ≤ m.c2.length ∧ ∀ Y X, Px r Y X ↔ Px acc Y X ∨ CutP (m.c2.drop i) w Y X := fun q => by
    obtain ⟨r, e1, e2, e3, e4⟩ := IH acc hc (fun r hr => hb r (by rw [e]; exact List.mem_cons_of_mem _ hr)) (by omega)
    refine ⟨r, e1, e2, e3, fun Y X => ?_⟩
    rw [e4, S, or_iff_right (q Y X)]
   rw [if_pos (by omega), if_pos (by omega), wsucc i (by omega)]
   rw [wrap_i64 (x := (rd m.c2 (i : Int)).c0 - w.c1) (by omega) (by omega), wrap_i64 (x := (rd m.c2 (i : Int)).c1 - w.c0) (by omega) (by omega), wrap_i64 (x := (rd m.c2 (i : Int)).c2 - w.c0) (by omega) (by omega)]
   by_cases c1 : 0 ≤ (rd m.c2 (i : Int)).c0 - w.c1
   ·rw [if_pos c1]
    by_cases c2 : (rd m.c2 (i : Int)).c0 - w.c1 < w.c3
    ·rw [if_pos c2]
     refine (congrArg (fun o => ∃ r, o = some ((⟨w.c2, w.c3, r⟩ : S5), (0 : Int)) ∧ Can r ∧ r.length ≤ m.c2.length ∧ ∀ Y X, Px r Y X ↔ Px acc Y X ∨ CutP (m.c2.drop i) w Y X) (span_code (l25_0 n m w k ((i + 1 : Nat) : Int)) acc ((rd m.c2 (i : Int)).c0 - w.c1) (if 0 > (rd m.c2 (i : Int)).c1 - w.c0 then 0 else (rd m.c2 (i : Int)).c1 - w.c0) (if w.c2 < (rd m.c2 (i : Int)).c2 - w.c0 then w.c2 else (rd m.c2 (i : Int)).c2 - w.c0) (by omega))).mpr ?_
     obtain ⟨s1, s2, s3, s4⟩ := span_ok acc ((rd m.c2 (i : Int)).c0 - w.c1) (if 0 > (rd m.c2 (i : Int)).c1 - w.c0 then 0 else (rd m.c2 (i : Int)).c1 - w.c0) (if w.c2 < (rd m.c2 (i : Int)).c2 - w.c0 then w.c2 else (rd m.c2 (i : Int)).c2 - w.c0) hc bi
     obtain ⟨r, e1, e2, e3, e4⟩ := IH _ s1 (fun s hs => bd_mono s2 (by
      rcases hpw s hs with q | ⟨q, q'⟩
      ·exact .inl (by omega)
      ·refine .inr ⟨by omega, ?_⟩
       split <;> split <;> omega)) (by omega)
     refine ⟨r, e1, e2, e3, fun Y X => ?_⟩
     rw [e4, S, s3, or_assoc]
     unfold In1
     have : (Y = (rd m.c2 (i : Int)).c0 - w.c1 ∧ (if 0 > (rd m.c2 (i : Int)).c1 - w.c0 then 0 else (rd m.c2 (i : Int)).c1 - w.c0) ≤ X ∧ X < (if w.c2 < (rd m.c2 (i : Int)).c2 - w.c0 then w.c2 else (rd m.c2 (i : Int)).c2 - w.c0)) ↔ (0 ≤ Y ∧ Y < w.c3 ∧ 0 ≤ X ∧ X < w.c2 ∧ (rd m.c2 (i : Int)).c0 = Y + w.c1 ∧ (rd m.c2 (i : Int)).c1 ≤ X + w.c0 ∧ X + w.c0 < (rd m.c2 (i : Int)).c2) := by
      split <;> split <;> omega
     rw [this]
    ·rw [if_neg c2]
     exact skip (fun Y X => by unfold In1; omega)
   ·rw [if_neg c1]
    exact skip (fun Y X => by unfold In1; omega)
  ·rw [if_neg (by omega)]
   refine ⟨acc, rfl, hc, by omega, fun Y X => ?_⟩
   rw [List.drop_eq_nil_of_le (by omega)]
   exact ⟨.inl, fun h => h.elim id (fun ⟨_, _, _, _, q⟩ => absurd q (px_nil _ _))⟩
theorem g60_ok (n : Nat) (m : S5) (v : Int) (h : g16 n m = some v) (hn : 2 < n) : g60 n [m] = some v := by
 obtain ⟨k, rfl⟩ : ∃ k, n = k + 2 := ⟨n - 2, by omega⟩
 unfold g60
 have h1 : IntKind.i64.wrap ((0 : Int) + 1) = 1 := by decide
 have h2 : rd [m] 0 = m := rfl
 unfold l60_0
 rw [if_pos (by simp), if_pos (by simp), h2]
 have h3 : g16 (k + 2) (⟨m.c0, m.c1, m.c2⟩ : S5) = some v := h
 rw [h3, h1, Option.bind_some]
 by_cases c : v = 0
 ·rw [if_pos c]
  unfold l60_0
  rw [if_neg (by simp), c]
 ·rw [if_neg c]
theorem g61_wn (n : Nat) (w : S9) : ∃ v, g61 n w = some v ∧ (v = 0 ↔ Wn w) := by
 obtain ⟨b, e, hb⟩ := g55_gd n w.c2 w.c3
 unfold g61 Wn
 rw [e, ← hb, Option.bind_some]
 repeat' split
 all_goals exact ⟨_, rfl, by simp_all <;> (intros; omega)⟩
theorem g32_wn (n : Nat) (w : S9) : ∃ b, g32 n w = some b ∧ (b = true ↔ Wn w) := by
 obtain ⟨b, e, hb⟩ := g46_gd n w.c2 w.c3
 unfold g32 Wn
 rw [e, ← hb, Option.bind_some]
 repeat' split
 all_goals exact ⟨_, rfl, by simp_all <;> (intros; omega)⟩
/-- Cut of the reference: rows and columns -/
theorem l26_1_ok (n : Nat) (R : Int → List Bool → Option (S5 × Int)) (w : S9) (s : S3) (W H W0 H0 y : Nat) (P : Int → Int → Prop) (Q : S5 × Int → Prop) (hw : Wn w) (hW : w.c2 = (W : Int)) (hM : H * W ≤ 100000000) (hy : y < H) (hH4 : H ≤ 4096) (hW4 : W ≤ 4096)
  (hs0 : s.c0 = (W0 : Int)) (hs1 : s.c1 = (H0 : Int)) (hM0 : H0 * W0 ≤ 100000000) (hS : IsB s.c2 W0 H0 P)
  (hR : ∀ B, IsB B W H (fun Y X => 0 ≤ Y ∧ 0 ≤ X ∧ X < (W : Int) ∧ P (Y + w.c1) (X + w.c0) ∧ Y < ((y + 1 : Nat) : Int)) → ∃ r, R ((y + 1 : Nat) : Int) B = some r ∧ Q r) : ∀ (k x : Nat) (B : List Bool), W - x < k → x ≤ W → IsB B W H (fun Y X => 0 ≤ Y ∧ 0 ≤ X ∧ X < (W : Int) ∧ P (Y + w.c1) (X + w.c0) ∧ (Y < (y : Int) ∨ (Y = (y : Int) ∧ X < (x : Int)))) →
  ∃ r, l26_1 n R w s (y : Int) k (x : Int) B = some r ∧ Q r
 | 0, _, _, h, _, _ => by omega
 | k + 1, x, B, hk, hx, hI => by
  obtain ⟨⟨g1, g2, g3, g4⟩, w1, w2, w3, w4⟩ := hw
  unfold l26_1
  rw [hW]
  by_cases c : x < W
  ·have hi := idx_lt hy c
   obtain ⟨b, e, hb⟩ := g64_has n s W0 H0 P hs0 hs1 hM0 hS (IntKind.i64.wrap (w.c0 + (x : Int))) (IntKind.i64.wrap (w.c1 + (y : Int)))
   rw [wrap_i64 (x := w.c0 + (x : Int)) (by omega) (by omega), wrap_i64 (x := w.c1 + (y : Int)) (by omega) (by omega)] at e hb
   rw [if_pos (by omega), wrap_i64 (x := w.c0 + (x : Int)) (by omega) (by omega), wrap_i64 (x := w.c1 + (y : Int)) (by omega) (by omega), show (⟨s.c0, s.c1, s.c2⟩ : S3) = s from rfl, e, Option.bind_some, wrap_idx hM hy c, Int.toNat_natCast, if_pos (by rw [hI.1]; omega), if_pos (by rw [hI.1]; omega), wsucc x (by omega)]
   refine l26_1_ok n R w s W H W0 H0 y P Q ⟨⟨g1, g2, g3, g4⟩, w1, w2, w3, w4⟩ hW hM hy hH4 hW4 hs0 hs1 hM0 hS hR k (x + 1) _ (by omega) (by omega) (isB_congr (isB_set hI y x hy c b) (fun Y X _ _ _ _ => ?_) (fun Y X q => ?_))
   ·by_cases q : Y = (y : Int) ∧ X = (x : Int)
    ·obtain ⟨rfl, rfl⟩ := q
     rw [if_pos ⟨rfl, rfl⟩, hb, Int.add_comm w.c1, Int.add_comm w.c0]
     constructor
     ·intro h; exact ⟨by omega, by omega, by omega, h, by omega⟩
     ·intro h; exact h.2.2.2.1
    ·rw [if_neg q]
     have : (Y < (y : Int) ∨ (Y = (y : Int) ∧ X < (x : Int))) ↔ (Y < (y : Int) ∨ (Y = (y : Int) ∧ X < ((x + 1 : Nat) : Int))) := by omega
     rw [this]
   ·omega
  ·rw [if_neg (by omega), wsucc y (by omega)]
   refine hR B (isB_congr hI (fun Y X _ _ _ _ => ?_) (fun Y X q => ?_))
   ·have : x = W := by omega
    subst this
    constructor
    ·rintro ⟨a1, a2, a3, a4, a5⟩; exact ⟨a1, a2, a3, a4, by omega⟩
    ·rintro ⟨a1, a2, a3, a4, a5⟩; exact ⟨a1, a2, a3, a4, by omega⟩
   ·omega
theorem l26_0_ok (n : Nat) (w : S9) (s : S3) (W H W0 H0 : Nat) (P : Int → Int → Prop) (hw : Wn w) (hW : w.c2 = (W : Int)) (hH : w.c3 = (H : Int)) (hM : H * W ≤ 100000000) (hH4 : H ≤ 4096) (hW4 : W ≤ 4096)
  (hs0 : s.c0 = (W0 : Int)) (hs1 : s.c1 = (H0 : Int)) (hM0 : H0 * W0 ≤ 100000000) (hS : IsB s.c2 W0 H0 P) (hn : 4096 < n) : ∀ (k y : Nat) (B : List Bool), H - y < k → y ≤ H → IsB B W H (fun Y X => 0 ≤ Y ∧ 0 ≤ X ∧ X < (W : Int) ∧ P (Y + w.c1) (X + w.c0) ∧ Y < (y : Int)) →
  ∃ r, l26_0 n w s k (y : Int) B = some r ∧ ∃ l, r = (⟨(W : Int), (H : Int), l⟩, 0) ∧ Can l ∧ ∀ Y X, Px l Y X ↔ 0 ≤ Y ∧ Y < (H : Int) ∧ 0 ≤ X ∧ X < (W : Int) ∧ P (Y + w.c1) (X + w.c0)
 | 0, _, _, h, _, _ => by omega
 | k + 1, y, B, hk, hy, hI => by
  unfold l26_0
  rw [hH]
  by_cases c : y < H
  ·rw [if_pos (by omega)]
   refine l26_1_ok n (l26_0 n w s k) w s W H W0 H0 y P _ hw hW hM c hH4 hW4 hs0 hs1 hM0 hS (fun B' h => l26_0_ok n w s W H W0 H0 P hw hW hH hM hH4 hW4 hs0 hs1 hM0 hS hn k (y + 1) B' (by omega) (by omega) h) n 0 B (by omega) (by omega) (isB_congr hI (fun Y X _ _ _ _ => ?_) (fun Y X q => ?_))
   ·constructor
    ·rintro ⟨a1, a2, a3, a4, a5⟩; exact ⟨a1, a2, a3, a4, .inl a5⟩
    ·rintro ⟨a1, a2, a3, a4, a5⟩; exact ⟨a1, a2, a3, a4, by omega⟩
   ·omega
  ·have : y = H := by omega
   subst this
   obtain ⟨r, e, hc, _, hp⟩ := g53_px n ⟨(W : Int), (y : Int), B⟩ W y rfl rfl hI.1 hM (by omega) (by omega) (by omega) (by omega)
   rw [if_neg (by omega), hW, e, Option.bind_some]
   refine ⟨_, rfl, r, rfl, hc, fun Y X => ?_⟩
   rw [hp, hI.2]
   constructor
   ·rintro ⟨⟨a1, a2, a3, a4, a5⟩, a6⟩; exact ⟨a1, a6, a2, a3, a4⟩
   ·rintro ⟨a1, a2, a3, a4, a5⟩; exact ⟨⟨a1, a3, a4, a5, a2⟩, a2⟩
/-- both Cuts -/
theorem cut_ok (n : Nat) (m : S5) (w : S9) (hl : m.c2.length ≤ 100000000) (hln : m.c2.length < n) (hn : 4096 < n) :
  (Vm m ∧ Wn w ∧ ∃ r, g25 n m w = some (⟨w.c2, w.c3, r⟩, 0) ∧ g26 n m w = some (⟨w.c2, w.c3, r⟩, 0) ∧ Can r ∧ r.length ≤ m.c2.length ∧ ∀ Y X, Px r Y X ↔ CutP m.c2 w Y X) ∨
  (¬ (Vm m ∧ Wn w) ∧ g25 n m w = some (⟨0, 0, []⟩, 1) ∧ g26 n m w = some (⟨0, 0, []⟩, 1)) := by
 obtain ⟨v, e1, e2, h01, hv⟩ := g17_vm n m (by omega) hln
 obtain ⟨u, e3, hu⟩ := g61_wn n w
 obtain ⟨b, e4, hb⟩ := g32_wn n w
 have e5 := g60_ok n m v e1 (by omega)
 by_cases c : v = 0
 ·have hm := hv.1 c
  by_cases d : Wn w
  ·have e6 := hu.2 d
   have e7 := hb.2 d
   subst e6 e7 c
   refine .inl ⟨hm, d, ?_⟩
   obtain ⟨r, k1, k2, k3, k4⟩ := l25_0_ok n m w hm d (by omega) n 0 [] (by omega) (by omega) ⟨List.Pairwise.nil, by simp⟩ (fun _ _ => bd_nil _ _) (by simp)
   obtain ⟨W0, H0, B0, q0, q1, _, _, q4, q5, q6⟩ := g63_ok n m hm (by omega) hln hn
   obtain ⟨W, H, hW, hH, W4, H4, hM, hwr⟩ := gd_nat d.1
   obtain ⟨s, p1, l, rfl, p2, p3⟩ := l26_0_ok n w ⟨(W0 : Int), (H0 : Int), B0⟩ W H W0 H0 (Px m.c2) d hW hH hM H4 W4 rfl rfl q4 q6 hn n 0 (List.replicate (H * W) false) (by omega) (by omega) (isB_congr (isB_none W H _ rfl) (fun Y X _ _ _ _ => ⟨fun h => h.elim, fun ⟨_, _, _, _, q⟩ => by omega⟩) (fun Y X ⟨_, _, _, _, q⟩ => by omega))
   have hpx : ∀ Y X, Px r Y X ↔ CutP m.c2 w Y X := fun Y X => by
    rw [k4]
    exact ⟨fun h => h.elim (fun q => absurd q (px_nil _ _)) id, .inr⟩
   have : l = r := can_unique l r p2 k2 (fun Y X => by rw [p3, hpx]; unfold CutP; rw [hW, hH])
   subst this
   refine ⟨l, ?_, ?_, k2, k3, hpx⟩
   ·unfold g25
    rw [show (⟨m.c0, m.c1, m.c2⟩ : S5) = m from rfl, e5, Option.bind_some, if_pos rfl, show (⟨w.c0, w.c1, w.c2, w.c3⟩ : S9) = w from rfl, e3, Option.bind_some, if_pos rfl]
    exact k1
   ·unfold g26
    rw [show (⟨m.c0, m.c1, m.c2⟩ : S5) = m from rfl, show (⟨w.c0, w.c1, w.c2, w.c3⟩ : S9) = w from rfl, e4, Option.bind_some, e2, Option.bind_some, if_pos rfl, if_pos rfl, hwr, if_pos (by omega), q5, Option.bind_some, Int.toNat_natCast, hW, hH]
    exact p1
  ·refine .inr ⟨fun h => d h.2, ?_, ?_⟩
   ·unfold g25
    rw [show (⟨m.c0, m.c1, m.c2⟩ : S5) = m from rfl, e5, Option.bind_some, if_pos c, show (⟨w.c0, w.c1, w.c2, w.c3⟩ : S9) = w from rfl, e3, Option.bind_some, if_neg (fun h => d (hu.1 h))]
   ·unfold g26
    rw [show (⟨m.c0, m.c1, m.c2⟩ : S5) = m from rfl, show (⟨w.c0, w.c1, w.c2, w.c3⟩ : S9) = w from rfl, e4, Option.bind_some, e2, Option.bind_some, if_pos c, if_neg (fun h => d (hb.1 h))]
 ·refine .inr ⟨fun h => c (hv.2 h.1), ?_, ?_⟩
  ·unfold g25
   rw [show (⟨m.c0, m.c1, m.c2⟩ : S5) = m from rfl, e5, Option.bind_some, if_neg c]
  ·unfold g26
   rw [show (⟨m.c0, m.c1, m.c2⟩ : S5) = m from rfl, show (⟨w.c0, w.c1, w.c2, w.c3⟩ : S9) = w from rfl, e4, Option.bind_some, e2, Option.bind_some, if_neg c]
end Go.Av
end
