/- the plain law, part 23 -/
import Derived.Test.YtcgndadlcgnilaaGreatP22
set_option autoImplicit false
set_option linter.unusedSimpArgs false
set_option linter.unusedVariables false
set_option linter.unnecessarySimpa false
section
namespace Go.Av
/-- what Decode answers on any bytes -/
def ED (n : Nat) (a0 : List Int) (o : Option (S8 × Int)) : Prop := ∃ r c, o = some (r, c) ∧ ((c = 0 ∧ okR r ∧ g24 n r = some a0) ∨ (c = 2 ∧ r.c2 = []))
theorem encR_len {r : S8} (h : okR r) : (encR r).length ≤ 50100 := by
 have l0 := vi_len h.c0
 have l1 := vi_len h.c1
 have l2 := vis_len h.c2
 have l3 := vis_len h.c3
 have l4 := vws_len h.c4
 have l5 := vws_len h.c5
 have l6 := vws_len h.c6
 have k2 := h.c2.1
 have k3 := h.c3.1
 have k4 := h.c4.1
 have k5 := h.c5.1
 have k6 := h.c6.1
 simp [encR]; omega
theorem g55_tot (n : Nat) (s : S9) : ∃ v, g55 n s = some v := by
 unfold g55
 repeat' split
 all_goals exact ⟨_, rfl⟩
theorem end_ok (n : Nat) (h1 : 60000 ≤ n) (h2 : n < 1000000) (R : S8) (hR : okR R) (a0 : List Int) (s : S9) :
  ED n a0 ((g55 n s).bind fun v => if v = 0 then ((g24 n R).bind fun v68 => (g56 n v68 a0).bind fun v70 => if v70 = true then some (R, 0) else some ((⟨0, 0, ([] : List Int), ([] : List Int), ([] : List Int), ([] : List Int), ([] : List Int)⟩ : S8), 2)) else some ((⟨0, 0, ([] : List Int), ([] : List Int), ([] : List Int), ([] : List Int), ([] : List Int)⟩ : S8), 2)) := by
 obtain ⟨v, e⟩ := g55_tot n s
 have hl := encR_len hR
 rw [e, Option.bind_some]
 by_cases h : v = 0
 ·rw [if_pos h, g24_enc n (by omega) h2 R hR, Option.bind_some, g56_eq n _ _ (by omega) h2, Option.bind_some]
  by_cases q : encR R = a0
  ·rw [if_pos (decide_eq_true q)]
   exact ⟨_, _, rfl, .inl ⟨rfl, hR, by rw [g24_enc n (by omega) h2 R hR, q]⟩⟩
  ·rw [if_neg (by simp [q])]
   exact ⟨_, _, rfl, .inr ⟨rfl, rfl⟩⟩
 ·rw [if_neg h]
  exact ⟨_, _, rfl, .inr ⟨rfl, rfl⟩⟩
section
variable (n m : Nat) (a0 : List Int) (v4 v6 : Int × S9) (v8 v10 : List Int × S9)
theorem l25_2_tot (y z : List Int) (v : Int × S9) (h1 : 60000 ≤ n) (h2 : n < 1000000) (hm : m < 1000) (ha : a0.length = m) (hR : ∀ c : List Int, c.length ≤ m → (∀ x, x ∈ c → isU64 x) → okR ⟨v4.1, v6.1, v8.1, v10.1, y, z, c⟩) : ∀ (k i : Nat) (b : Int) (t : Bool) (acc : List Int) (s : S9), m - i < k → acc.length = i → i ≤ m → (∀ x, x ∈ acc → isU64 x) → Rd m s → ED n a0 (l25_2 n a0 v4 v6 v8 v10 y z v k (i : Int) b t s.c0 s.c1 acc)
 | 0, _, _, _, _, _, h, _, _, _, _ => by omega
 | k + 1, i, b, t, acc, s, q1, q2, q3, q4, hs => by
  unfold l25_2
  by_cases h : (i : Int) < v.1
  ·rw [if_pos h]
   by_cases h0 : v.1 ≤ (a0.length : Int)
   ·obtain ⟨x, s', e, hx, hs'⟩ := g54_tot n m (by omega) s hs
    rw [if_pos h0, show (⟨s.c0, s.c1⟩ : S9) = s from rfl, e, Option.bind_some, if_pos (by omega), wsucc i (by omega)]
    refine l25_2_tot y z v h1 h2 hm ha hR k (i + 1) _ _ _ s' (by omega) (by simp; omega) (by omega) (fun y hy => ?_) hs'
    rcases List.mem_append.1 hy with hy | hy
    ·exact q4 y hy
    ·rw [List.mem_singleton.1 hy]; exact hx
   ·rw [if_neg h0]
    exact end_ok n h1 h2 _ (hR acc (by omega) q4) a0 s
  ·rw [if_neg h]
   exact end_ok n h1 h2 _ (hR acc (by omega) q4) a0 s
theorem l25_3_tot (y z : List Int) (v : Int × S9) (h1 : 60000 ≤ n) (h2 : n < 1000000) (hm : m < 1000) (ha : a0.length = m) (hR : ∀ c : List Int, c.length ≤ m → (∀ x, x ∈ c → isU64 x) → okR ⟨v4.1, v6.1, v8.1, v10.1, y, z, c⟩) : ∀ (k i : Nat) (acc : List Int) (s : S9), m - i < k → acc.length = i → i ≤ m → (∀ x, x ∈ acc → isU64 x) → Rd m s → ED n a0 (l25_3 n a0 v4 v6 v8 v10 y z v k (i : Int) s.c0 s.c1 acc)
 | 0, _, _, _, h, _, _, _, _ => by omega
 | k + 1, i, acc, s, q1, q2, q3, q4, hs => by
  unfold l25_3
  by_cases h : (i : Int) < v.1
  ·rw [if_pos h]
   by_cases h0 : v.1 ≤ (a0.length : Int)
   ·obtain ⟨x, s', e, hx, hs'⟩ := g54_tot n m (by omega) s hs
    rw [if_pos h0, show (⟨s.c0, s.c1⟩ : S9) = s from rfl, e, Option.bind_some, if_pos (by omega), wsucc i (by omega)]
    refine l25_3_tot y z v h1 h2 hm ha hR k (i + 1) _ s' (by omega) (by simp; omega) (by omega) (fun y hy => ?_) hs'
    rcases List.mem_append.1 hy with hy | hy
    ·exact q4 y hy
    ·rw [List.mem_singleton.1 hy]; exact hx
   ·rw [if_neg h0]
    exact end_ok n h1 h2 _ (hR acc (by omega) q4) a0 s
  ·rw [if_neg h]
   exact end_ok n h1 h2 _ (hR acc (by omega) q4) a0 s
theorem l25_5_tot (y z : List Int) (v : Int × S9) (h1 : 60000 ≤ n) (h2 : n < 1000000) (hm : m < 1000) (ha : a0.length = m) (hR : ∀ c : List Int, c.length ≤ m → (∀ x, x ∈ c → isU64 x) → okR ⟨v4.1, v6.1, v8.1, v10.1, y, z, c⟩) : ∀ (k i : Nat) (b : Int) (t : Bool) (acc : List Int) (s : S9), m - i < k → acc.length = i → i ≤ m → (∀ x, x ∈ acc → isU64 x) → Rd m s → ED n a0 (l25_5 n a0 v4 v6 v8 v10 y z v k (i : Int) b t s.c0 s.c1 acc)
 | 0, _, _, _, _, _, h, _, _, _, _ => by omega
 | k + 1, i, b, t, acc, s, q1, q2, q3, q4, hs => by
  unfold l25_5
  by_cases h : (i : Int) < v.1
  ·rw [if_pos h]
   by_cases h0 : v.1 ≤ (a0.length : Int)
   ·obtain ⟨x, s', e, hx, hs'⟩ := g54_tot n m (by omega) s hs
    rw [if_pos h0, show (⟨s.c0, s.c1⟩ : S9) = s from rfl, e, Option.bind_some, if_pos (by omega), wsucc i (by omega)]
    refine l25_5_tot y z v h1 h2 hm ha hR k (i + 1) _ _ _ s' (by omega) (by simp; omega) (by omega) (fun y hy => ?_) hs'
    rcases List.mem_append.1 hy with hy | hy
    ·exact q4 y hy
    ·rw [List.mem_singleton.1 hy]; exact hx
   ·rw [if_neg h0]
    exact end_ok n h1 h2 _ (hR acc (by omega) q4) a0 s
  ·rw [if_neg h]
   exact end_ok n h1 h2 _ (hR acc (by omega) q4) a0 s
theorem l25_6_tot (y z : List Int) (v : Int × S9) (h1 : 60000 ≤ n) (h2 : n < 1000000) (hm : m < 1000) (ha : a0.length = m) (hR : ∀ c : List Int, c.length ≤ m → (∀ x, x ∈ c → isU64 x) → okR ⟨v4.1, v6.1, v8.1, v10.1, y, z, c⟩) : ∀ (k i : Nat) (acc : List Int) (s : S9), m - i < k → acc.length = i → i ≤ m → (∀ x, x ∈ acc → isU64 x) → Rd m s → ED n a0 (l25_6 n a0 v4 v6 v8 v10 y z v k (i : Int) s.c0 s.c1 acc)
 | 0, _, _, _, h, _, _, _, _ => by omega
 | k + 1, i, acc, s, q1, q2, q3, q4, hs => by
  unfold l25_6
  by_cases h : (i : Int) < v.1
  ·rw [if_pos h]
   by_cases h0 : v.1 ≤ (a0.length : Int)
   ·obtain ⟨x, s', e, hx, hs'⟩ := g54_tot n m (by omega) s hs
    rw [if_pos h0, show (⟨s.c0, s.c1⟩ : S9) = s from rfl, e, Option.bind_some, if_pos (by omega), wsucc i (by omega)]
    refine l25_6_tot y z v h1 h2 hm ha hR k (i + 1) _ s' (by omega) (by simp; omega) (by omega) (fun y hy => ?_) hs'
    rcases List.mem_append.1 hy with hy | hy
    ·exact q4 y hy
    ·rw [List.mem_singleton.1 hy]; exact hx
   ·rw [if_neg h0]
    exact end_ok n h1 h2 _ (hR acc (by omega) q4) a0 s
  ·rw [if_neg h]
   exact end_ok n h1 h2 _ (hR acc (by omega) q4) a0 s
theorem l25_1_tot (y : List Int) (v : Int × S9) (h1 : 60000 ≤ n) (h2 : n < 1000000) (hm : m < 1000) (ha : a0.length = m) (hR : ∀ z c : List Int, z.length ≤ m → (∀ x, x ∈ z → isU64 x) → c.length ≤ m → (∀ x, x ∈ c → isU64 x) → okR ⟨v4.1, v6.1, v8.1, v10.1, y, z, c⟩) : ∀ (k i : Nat) (b : Int) (t : Bool) (acc : List Int) (s : S9), m - i < k → acc.length = i → i ≤ m → (∀ x, x ∈ acc → isU64 x) → Rd m s → ED n a0 (l25_1 n a0 v4 v6 v8 v10 y v k (i : Int) b t s.c0 s.c1 acc)
 | 0, _, _, _, _, _, h, _, _, _, _ => by omega
 | k + 1, i, b, t, acc, s, q1, q2, q3, q4, hs => by
  unfold l25_1
  by_cases h : (i : Int) < v.1
  ·rw [if_pos h]
   by_cases h0 : v.1 ≤ (a0.length : Int)
   ·obtain ⟨x, s', e, hx, hs'⟩ := g54_tot n m (by omega) s hs
    rw [if_pos h0, show (⟨s.c0, s.c1⟩ : S9) = s from rfl, e, Option.bind_some, if_pos (by omega), wsucc i (by omega)]
    refine l25_1_tot y v h1 h2 hm ha hR k (i + 1) _ _ _ s' (by omega) (by simp; omega) (by omega) (fun y hy => ?_) hs'
    rcases List.mem_append.1 hy with hy | hy
    ·exact q4 y hy
    ·rw [List.mem_singleton.1 hy]; exact hx
   ·rw [if_neg h0]
    obtain ⟨w, s', e, _, hs'⟩ := g29_tot n m (by omega) s hs; rw [show (⟨s.c0, s.c1⟩ : S9) = s from rfl, e, Option.bind_some]; exact l25_2_tot n m a0 v4 v6 v8 v10 y acc (w, s') h1 h2 hm ha (fun c p q => hR acc c (by omega) q4 p q) n 0 _ _ [] s' (by omega) rfl (by omega) (by simp) hs'
  ·rw [if_neg h]
   obtain ⟨w, s', e, _, hs'⟩ := g29_tot n m (by omega) s hs; rw [show (⟨s.c0, s.c1⟩ : S9) = s from rfl, e, Option.bind_some]; exact l25_3_tot n m a0 v4 v6 v8 v10 y acc (w, s') h1 h2 hm ha (fun c p q => hR acc c (by omega) q4 p q) n 0 [] s' (by omega) rfl (by omega) (by simp) hs'
theorem l25_4_tot (y : List Int) (v : Int × S9) (h1 : 60000 ≤ n) (h2 : n < 1000000) (hm : m < 1000) (ha : a0.length = m) (hR : ∀ z c : List Int, z.length ≤ m → (∀ x, x ∈ z → isU64 x) → c.length ≤ m → (∀ x, x ∈ c → isU64 x) → okR ⟨v4.1, v6.1, v8.1, v10.1, y, z, c⟩) : ∀ (k i : Nat) (acc : List Int) (s : S9), m - i < k → acc.length = i → i ≤ m → (∀ x, x ∈ acc → isU64 x) → Rd m s → ED n a0 (l25_4 n a0 v4 v6 v8 v10 y v k (i : Int) s.c0 s.c1 acc)
 | 0, _, _, _, h, _, _, _, _ => by omega
 | k + 1, i, acc, s, q1, q2, q3, q4, hs => by
  unfold l25_4
  by_cases h : (i : Int) < v.1
  ·rw [if_pos h]
   by_cases h0 : v.1 ≤ (a0.length : Int)
   ·obtain ⟨x, s', e, hx, hs'⟩ := g54_tot n m (by omega) s hs
    rw [if_pos h0, show (⟨s.c0, s.c1⟩ : S9) = s from rfl, e, Option.bind_some, if_pos (by omega), wsucc i (by omega)]
    refine l25_4_tot y v h1 h2 hm ha hR k (i + 1) _ s' (by omega) (by simp; omega) (by omega) (fun y hy => ?_) hs'
    rcases List.mem_append.1 hy with hy | hy
    ·exact q4 y hy
    ·rw [List.mem_singleton.1 hy]; exact hx
   ·rw [if_neg h0]
    obtain ⟨w, s', e, _, hs'⟩ := g29_tot n m (by omega) s hs; rw [show (⟨s.c0, s.c1⟩ : S9) = s from rfl, e, Option.bind_some]; exact l25_5_tot n m a0 v4 v6 v8 v10 y acc (w, s') h1 h2 hm ha (fun c p q => hR acc c (by omega) q4 p q) n 0 _ _ [] s' (by omega) rfl (by omega) (by simp) hs'
  ·rw [if_neg h]
   obtain ⟨w, s', e, _, hs'⟩ := g29_tot n m (by omega) s hs; rw [show (⟨s.c0, s.c1⟩ : S9) = s from rfl, e, Option.bind_some]; exact l25_6_tot n m a0 v4 v6 v8 v10 y acc (w, s') h1 h2 hm ha (fun c p q => hR acc c (by omega) q4 p q) n 0 [] s' (by omega) rfl (by omega) (by simp) hs'
theorem l25_0_tot (v : Int × S9) (h1 : 60000 ≤ n) (h2 : n < 1000000) (hm : m < 1000) (ha : a0.length = m) (hR : ∀ y z c : List Int, y.length ≤ m → (∀ x, x ∈ y → isU64 x) → z.length ≤ m → (∀ x, x ∈ z → isU64 x) → c.length ≤ m → (∀ x, x ∈ c → isU64 x) → okR ⟨v4.1, v6.1, v8.1, v10.1, y, z, c⟩) : ∀ (k i : Nat) (acc : List Int) (s : S9), m - i < k → acc.length = i → i ≤ m → (∀ x, x ∈ acc → isU64 x) → Rd m s → ED n a0 (l25_0 n a0 v4 v6 v8 v10 v k (i : Int) s.c0 s.c1 acc)
 | 0, _, _, _, h, _, _, _, _ => by omega
 | k + 1, i, acc, s, q1, q2, q3, q4, hs => by
  unfold l25_0
  by_cases h : (i : Int) < v.1
  ·rw [if_pos h]
   by_cases h0 : v.1 ≤ (a0.length : Int)
   ·obtain ⟨x, s', e, hx, hs'⟩ := g54_tot n m (by omega) s hs
    rw [if_pos h0, show (⟨s.c0, s.c1⟩ : S9) = s from rfl, e, Option.bind_some, if_pos (by omega), wsucc i (by omega)]
    refine l25_0_tot v h1 h2 hm ha hR k (i + 1) _ s' (by omega) (by simp; omega) (by omega) (fun y hy => ?_) hs'
    rcases List.mem_append.1 hy with hy | hy
    ·exact q4 y hy
    ·rw [List.mem_singleton.1 hy]; exact hx
   ·rw [if_neg h0]
    obtain ⟨w, s', e, _, hs'⟩ := g29_tot n m (by omega) s hs; rw [show (⟨s.c0, s.c1⟩ : S9) = s from rfl, e, Option.bind_some]; exact l25_1_tot n m a0 v4 v6 v8 v10 acc (w, s') h1 h2 hm ha (fun z c p q r s => hR acc z c (by omega) q4 p q r s) n 0 _ _ [] s' (by omega) rfl (by omega) (by simp) hs'
  ·rw [if_neg h]
   obtain ⟨w, s', e, _, hs'⟩ := g29_tot n m (by omega) s hs; rw [show (⟨s.c0, s.c1⟩ : S9) = s from rfl, e, Option.bind_some]; exact l25_4_tot n m a0 v4 v6 v8 v10 acc (w, s') h1 h2 hm ha (fun z c p q r s => hR acc z c (by omega) q4 p q r s) n 0 [] s' (by omega) rfl (by omega) (by simp) hs'
end
theorem g25_tot (n : Nat) (h1 : 60000 ≤ n) (h2 : n < 1000000) (a0 : List Int) (hm : a0.length < 1000) (hu : ∀ b, b ∈ a0 → 0 ≤ b ∧ b < 256) : ED n a0 (g25 n a0) := by
 have hb : Rd a0.length ⟨a0, 0⟩ := ⟨Nat.le_refl _, hu⟩
 unfold g25 g26 g57
 rw [if_pos (by omega)]
 simp only [Option.bind_some]
 obtain ⟨x4, s4, e4, h4, r4⟩ := g29_tot n _ (by omega) _ hb
 rw [e4]; simp only [Option.bind_some]
 obtain ⟨x6, s6, e6, h6, r6⟩ := g29_tot n _ (by omega) _ r4
 rw [show (⟨s4.c0, s4.c1⟩ : S9) = s4 from rfl, e6]; simp only [Option.bind_some]
 obtain ⟨x8, s8, e8, h8, r8⟩ := g53_tot n _ (by omega) (by omega) (by omega) _ r6
 rw [show (⟨s6.c0, s6.c1⟩ : S9) = s6 from rfl, e8]; simp only [Option.bind_some]
 obtain ⟨x10, s10, e10, h10, r10⟩ := g53_tot n _ (by omega) (by omega) (by omega) _ r8
 rw [show (⟨s8.c0, s8.c1⟩ : S9) = s8 from rfl, e10]; simp only [Option.bind_some]
 obtain ⟨x14, s14, e14, h14, r14⟩ := g29_tot n _ (by omega) _ r10
 rw [show (⟨s10.c0, s10.c1⟩ : S9) = s10 from rfl, e14]; simp only [Option.bind_some]
 exact l25_0_tot n a0.length a0 (x4, s4) (x6, s6) (x8, s8) (x10, s10) (x14, s14) h1 h2 hm rfl (fun y z c y1 y2 z1 z2 c1 c2 => ⟨h4, h6, ⟨by have := h8.1; simp only []; omega, h8.2⟩, ⟨by have := h10.1; simp only []; omega, h10.2⟩, ⟨by simp only []; omega, y2⟩, ⟨by simp only []; omega, z2⟩, ⟨by simp only []; omega, c2⟩⟩) n 0 [] s14 (by omega) rfl (by omega) (by simp) r14
end Go.Av
end
