/- the plain law, part 24 -/
import Derived.Test.YtcgndadlcgnilaaGreatP23
set_option autoImplicit false
set_option linter.unusedSimpArgs false
set_option linter.unusedVariables false
set_option linter.unnecessarySimpa false
section
namespace Go.Av
theorem mx_u (a b : Int) : isU64 (mx a b) := by unfold mx g78; exact wrap_u64_range _
theorem l45_u (n : Nat) (xs : List Int) : ∀ (k : Nat) (i h r : Int), l45_0 n xs k i h = some r → isU64 r
 | 0, _, _, _, e => by simp [l45_0] at e
 | k + 1, i, h, r, e => by
  unfold l45_0 at e
  simp only [g78_mx, Option.bind_some] at e
  split at e
  ·split at e
   ·exact l45_u n xs k _ _ r e
   ·cases e
  ·cases e; exact mx_u _ _
theorem g45_u (n : Nat) (a : List UInt8) (xs : List Int) (r : Int) (e : g45 n a xs = some r) : isU64 r := by
 unfold g45 at e
 obtain ⟨v, _, e⟩ := Option.bind_eq_some_iff.1 e
 simp only [g78_mx, Option.bind_some] at e
 exact l45_u n xs n _ _ r e
theorem g46_u (n : Nat) (a b r : Int) (e : g46 n a b = some r) : isU64 r := by
 unfold g46 at e
 obtain ⟨v, h, e⟩ := Option.bind_eq_some_iff.1 e
 cases e; exact g45_u n _ _ _ h
theorem l23_u (n : Nat) (ps : List S1) : ∀ (k : Nat) (h i r : Int), isU64 h → l23_0 n ps k h i = some r → isU64 r
 | 0, _, _, _, _, e => by simp [l23_0] at e
 | k + 1, h, i, r, u, e => by
  unfold l23_0 at e
  split at e
  ·split at e
   ·obtain ⟨v, _, e⟩ := Option.bind_eq_some_iff.1 e
    obtain ⟨w, _, e⟩ := Option.bind_eq_some_iff.1 e
    obtain ⟨z, hz, e⟩ := Option.bind_eq_some_iff.1 e
    exact l23_u n ps k z _ r (g46_u n _ _ z hz) e
   ·cases e
  ·cases e; exact u
theorem sm_u (n : Nat) (p : List S1) : isU64 (sm n p) := by
 unfold sm
 cases h : g23 n p with
 | none => exact ⟨by decide, by decide⟩
 | some r =>
  unfold g23 at h
  obtain ⟨v, hv, e⟩ := Option.bind_eq_some_iff.1 h
  exact l23_u n p n v 0 r (g45_u n _ _ v hv) e
theorem k64 : isI64 0 ∧ isI64 3 ∧ isI64 (-1) ∧ isI64 4095 ∧ isI64 4096 ∧ isI64 1099511627776 ∧ isI64 1099511627777 := by unfold isI64; omega
theorem okR_er (c : Int) : okR (er c).1 := ⟨k64.1, k64.1, ⟨by simp [er], by simp [er]⟩, ⟨by simp [er], by simp [er]⟩, ⟨by simp [er], by simp [er]⟩, ⟨by simp [er], by simp [er]⟩, ⟨by simp [er], by simp [er]⟩⟩
theorem make14u (n : Nat) (hn : 1000 ≤ n) (a0 a1 : Int) (a2 a3 : List S2) (a4 : List Int) (ps : List (List S1)) (h2 : a2.length ≤ 5) (h3 : a3.length ≤ 5) (ho : okPs ps) (h4 : a4.length ≤ 5) (hf : few ps) (u0 : isI64 a0) (u1 : isI64 a1) (u2 : ∀ s, s ∈ a2 → isI64 s.c0) (u3 : ∀ s, s ∈ a3 → isI64 s.c0 ∧ isU64 s.c5) (u4 : ∀ x, x ∈ a4 → isU64 x) :
  ∃ r, g14 n a0 a1 a2 a3 a4 ps = some r ∧ small 5 r.1 ∧ okR r.1 := by
 have e1 : ∃ r, some (er 1) = some r ∧ small 5 r.1 ∧ okR r.1 := ⟨_, rfl, small_er 5 1, okR_er _⟩
 unfold g14
 by_cases q1 : a0 < 0
 ·rw [if_pos q1]; exact e1
 rw [if_neg q1]
 by_cases q2 : 4095 < a0
 ·rw [if_pos q2]; exact e1
 rw [if_neg q2]
 by_cases q3 : a1 < 0
 ·rw [if_pos q3]; exact e1
 rw [if_neg q3]
 by_cases q4 : 1099511627776 < a1
 ·rw [if_pos q4]; exact e1
 rw [if_neg q4]
 by_cases q5 : a3.length = a2.length
 ·rw [if_pos (by omega)]
  by_cases q6 : ps.length = a2.length
  ·rw [if_pos (by omega), if_neg (by omega)]
   obtain ⟨r, e, hr, hm⟩ := g33_ok n hn a4 (by omega)
   obtain ⟨r', _, i1, i2, i3⟩ := l14_1_ok n hn 0 0 a4 [] [] [] [] (by omega) n 0 [] (by omega) (by omega) (by simp) List.Pairwise.nil
   have hrr : r' = r := inc_ext _ _ i1 hr fun x => by rw [i3 x, hm x]; simp
   rw [hrr] at i2
   rw [g37_ids n hn a2 (by omega), g37_ids n hn a3 (by omega)]
   simp only [Option.bind_some]
   rw [g36_inc n hn _ (by simp; omega), g36_inc n hn _ (by simp; omega)]
   have B := l14_ok n hn a0 a1 a2 a3 a4 (a2.map S2.c0) (a3.map S2.c0) r ps (by omega) q5 q6 ho (by omega) hf hr hm n 0 [] [] (by omega) (by omega) rfl rfl
   simp only [List.drop_zero, List.nil_append] at B
   rw [show ((0 : Nat) : Int) = 0 from rfl] at B
   simp only [Option.bind_some]
   rw [B]
   by_cases c1 : decide (Inc (a2.map S2.c0)) = true
   ·rw [if_pos c1]
    by_cases c2 : decide (Inc (a3.map S2.c0)) = true
    ·rw [if_pos c2]
     by_cases f : fits a2 a3 a1 = true
     ·rw [if_pos f]
      by_cases m : nam ps a4 = true
      ·rw [if_pos m]; exact ⟨_, rfl, small_er 5 17, okR_er _⟩
      ·rw [if_neg m]
       refine ⟨_, rfl, ⟨by simpa using h2, by simpa using h3, by simpa using Nat.le_trans i2 h4, by simpa using h3, by simp; omega⟩, ⟨u0, u1, ⟨by simp; omega, fun x hx => ?_⟩, ⟨by simp; omega, fun x hx => ?_⟩, ⟨by simp; omega, fun x hx => ?_⟩, ⟨by simp; omega, fun x hx => ?_⟩, ⟨by simp; omega, fun x hx => ?_⟩⟩⟩
       ·obtain ⟨s, hs, rfl⟩ := List.mem_map.1 hx; exact u2 s hs
       ·obtain ⟨s, hs, rfl⟩ := List.mem_map.1 hx; exact (u3 s hs).1
       ·exact u4 x ((hm x).1 hx)
       ·obtain ⟨s, hs, rfl⟩ := List.mem_map.1 (by simpa using hx); exact (u3 s hs).2
       ·obtain ⟨s, hs, rfl⟩ := List.mem_map.1 (by simpa using hx); exact sm_u n s
     ·rw [if_neg f]; exact e1
    ·rw [if_neg c2]; exact e1
   ·rw [if_neg c1]; exact e1
  ·rw [if_neg (by omega)]; exact e1
 ·rw [if_neg (by omega)]; exact e1
theorem l8_oku (n : Nat) (a : List Int) (v : Int) (ha : ∀ x, x ∈ a → isI64 x) : ∀ (k j : Nat), 4 - j < k → j ≤ 4 → ∀ (x y : List S2) (u : Int), x.length = j → y.length = j → (∀ s, s ∈ x → isI64 s.c0) → (∀ s, s ∈ y → isI64 s.c0 ∧ isU64 s.c5) →
  ∃ p, l8_0 n a v k x y u ((2 * j : Nat) : Int) = some p ∧ p.1.length = p.2.length ∧ p.1.length ≤ 4 ∧ (∀ s, s ∈ p.1 → isI64 s.c0) ∧ (∀ s, s ∈ p.2 → isI64 s.c0 ∧ isU64 s.c5)
 | 0, _, h, _, _, _, _, _, _, _, _ => by omega
 | k + 1, j, hk, hj, x, y, u, hx, hy, hX, hY => by
  unfold l8_0
  have w1 : IntKind.i64.wrap (((2 * j : Nat) : Int) + 1) = ((2 * j + 1 : Nat) : Int) := wsucc _ (by omega)
  have w2 : IntKind.i64.wrap (((2 * j : Nat) : Int) + 2) = ((2 * (j + 1) : Nat) : Int) := by rw [wrap_i64 (by omega) (by omega)]; omega
  rw [w1, w2]
  by_cases c : ((2 * j + 1 : Nat) : Int) < (a.length : Int)
  ·by_cases c8 : ((2 * j : Nat) : Int) < 8
   ·obtain ⟨r, e, r0, r1⟩ := ar n (rd a ((2 * j : Nat) : Int)) 1000 (ha _ (mem_rd a _ (by omega))) (by omega)
    obtain ⟨q, e', q0, q1⟩ := ar n (rd a ((2 * j + 1 : Nat) : Int)) 60 (ha _ (mem_rd a _ (by omega))) (by omega)
    have hd : IntKind.i64.wrap (Int.tdiv r 3) = r / 3 := by rw [Int.tdiv_eq_ediv_of_nonneg r0, wrap_i64 (by omega) (by omega)]
    have ht := tm3 (r / 3) 2 (by omega) (by omega)
    rw [if_pos c, if_pos c8, if_pos (by omega), e]
    simp only [Option.bind_some]
    rw [hd, if_pos ht, if_pos (by omega), if_pos (by omega), e']
    simp only [Option.bind_some]
    have IH := l8_oku n a v ha k (j + 1) (by omega) (by omega)
    have lx : x.length + 1 ≤ 2199023255552 := by omega
    have ly : y.length + 1 ≤ 2199023255552 := by omega
    simp only [lx, ly, if_true]
    repeat' split
    all_goals
     refine IH _ _ _ (by simp [hx]) (by simp [hy]) (fun s hs => ?_) (fun s hs => ?_)
     ·rcases List.mem_append.1 hs with hs | hs
      ·exact hX s hs
      ·rw [List.mem_singleton.1 hs]; exact wrap_i64_range _
     ·rcases List.mem_append.1 hs with hs | hs
      ·exact hY s hs
      ·rw [List.mem_singleton.1 hs]; exact ⟨by first | exact wrap_i64_range _ | exact k64.2.1, wrap_u64_range _⟩
   ·rw [if_pos c, if_neg c8]; exact ⟨_, rfl, by simp [hx, hy], by simp [hx]; omega, hX, hY⟩
  ·rw [if_neg c]; exact ⟨_, rfl, by simp [hx, hy], by simp [hx]; omega, hX, hY⟩
theorem g8_oku (n : Nat) (hn : 1000 ≤ n) (a : List Int) (v : Int) (ha : ∀ x, x ∈ a → isI64 x) : ∃ p, g8 n a v = some p ∧ p.1.length = p.2.length ∧ p.1.length ≤ 4 ∧ (∀ s, s ∈ p.1 → isI64 s.c0) ∧ (∀ s, s ∈ p.2 → isI64 s.c0 ∧ isU64 s.c5) :=
 l8_oku n a v ha n 0 (by omega) (by omega) [] [] 0 rfl rfl (by simp) (by simp)
theorem l9_oku (n : Nat) (a : List Int) (v : Int) (ha : ∀ x, x ∈ a → isI64 x) (hv : isI64 v) : ∀ (k j : Nat), 5 - j < k → j ≤ 5 → ∀ (x : List Int), x.length ≤ j → (∀ v, v ∈ x → isU64 v) → ∃ p, l9_0 n a v k x (j : Int) = some p ∧ p.length ≤ 5 ∧ (∀ v, v ∈ p → isU64 v)
 | 0, _, h, _, _, _, _ => by omega
 | k + 1, j, hk, hj, x, hx, hX => by
  unfold l9_0
  obtain ⟨r, e, r0, r1⟩ := ar n v 5 hv (by omega)
  obtain ⟨q, e', q0, q1⟩ := pickN n a (IntKind.i64.wrap ((j : Int) + 2)) 30 ha (by omega)
  rw [e]
  simp only [Option.bind_some]
  by_cases c : (j : Int) < r
  ·rw [if_pos c, e']
   simp only [Option.bind_some]
   rw [if_pos (by omega), wsucc j (by omega)]
   refine l9_oku n a v ha hv k (j + 1) (by omega) (by omega) _ (by simp; omega) fun s hs => ?_
   rcases List.mem_append.1 hs with hs | hs
   ·exact hX s hs
   ·rw [List.mem_singleton.1 hs]; exact wrap_u64_range _
  ·rw [if_neg c]; exact ⟨_, rfl, by omega, hX⟩
theorem g9_oku (n : Nat) (hn : 1000 ≤ n) (a : List Int) (v : Int) (ha : ∀ x, x ∈ a → isI64 x) (hv : isI64 v) : ∃ p, g9 n a v = some p ∧ p.length ≤ 5 ∧ (∀ x, x ∈ p → isU64 x) :=
 l9_oku n a v ha hv n 0 (by omega) (by omega) [] (by simp) (by simp)
theorem g18_oku (n : Nat) (hn : 1000 ≤ n) (l m : List Int) (v a3 : Int) (hl : ∀ x, x ∈ l → isI64 x) (hm : ∀ x, x ∈ m → isI64 x) (h3 : isI64 a3) (hv : isI64 v) : ∃ r, g18 n l m v a3 = some r ∧ small 5 r.1 ∧ okR r.1 := by
 obtain ⟨p, e2, p1, p2, p5, p6⟩ := g8_oku n hn l v hl
 obtain ⟨ps, p3, p4, e4⟩ := g10_ok n hn m p.1.length (by omega) hm
 obtain ⟨w, e3, q1, q2⟩ := g9_oku n hn m a3 hm h3
 have ho : okPs ps := fun q hq => ⟨by have := (p4 q hq).1; omega, (p4 q hq).2⟩
 have ht := tot_le 4 ps (fun p hp => (p4 p hp).1)
 have hf : few ps := ⟨by omega, by omega, fun p hp => ⟨by have := (p4 p hp).1; omega, fun s hs => by have := ((p4 p hp).2 s hs).c4.1; omega⟩⟩
 obtain ⟨r, e5, r1, r2⟩ := make14u n hn 5 v p.1 p.2 w ps (by omega) (by omega) ho q1 hf ⟨by decide, by decide⟩ hv p5 p6 q2
 refine ⟨(r.1, ps, decide (r.2 = 0)), ?_, r1, r2⟩
 ·unfold g18
  rw [e2]; simp only [Option.bind_some]
  rw [e4]; simp only [Option.bind_some]
  rw [e3]; simp only [Option.bind_some]
  rw [e5]; rfl
theorem mem_snoc {P : Int → Prop} {l : List Int} {x : Int} (h : ∀ y, y ∈ l → P y) (hx : P x) : ∀ y, y ∈ l ++ [x] → P y := fun y hy => by
 rcases List.mem_append.1 hy with hy | hy
 ·exact h y hy
 ·rw [List.mem_singleton.1 hy]; exact hx
theorem mem_set0 {P : Int → Prop} {l : List Int} {x : Int} (h : ∀ y, y ∈ l → P y) (hx : P x) (i : Nat) : ∀ y, y ∈ l.set i x → P y := fun y hy => by
 rcases List.mem_or_eq_of_mem_set hy with hy | hy
 ·exact h y hy
 ·rw [hy]; exact hx
/-- Bent: one part more at most, and it can be encoded -/
theorem bent_oku (n : Nat) (r : S8) (b : Nat) (hb : b ≤ 100) (hs : small b r) (ho : okR r) (how y : Int) (h1 : isI64 how) (h2 : isI64 y) : ∃ x, g19 n r how y = some x ∧ small (b + 1) x ∧ okR x := by
 obtain ⟨v, e, v0, v1⟩ := ar n how 9 h1 (by omega)
 obtain ⟨u, e4, u0, u1⟩ := ar n y 4 h2 (by omega)
 obtain ⟨w, e30, w0, w1⟩ := ar n y 30 h2 (by omega)
 obtain ⟨s2, s3, s4, s5, s6⟩ := hs
 obtain ⟨⟨o0, o0'⟩, ⟨o1, o1'⟩, ⟨o2, o2'⟩, ⟨o3, o3'⟩, ⟨o4, o4'⟩, ⟨o5, o5'⟩, ⟨o6, o6'⟩⟩ := ho
 have U : (0 : Int) ≤ u ∧ u < 4 := ⟨u0, u1⟩
 have hu : u = 0 ∨ u = 1 ∨ u = 2 ∨ u = 3 := by omega
 have R1 : isI64 (rd ([y, (-1), 4095, 4096] : List Int) u) := by
  rcases hu with rfl | rfl | rfl | rfl
  ·exact h2
  ·exact k64.2.2.1
  ·exact k64.2.2.2.1
  ·exact k64.2.2.2.2.1
 have R2 : isI64 (rd ([y, (-1), 1099511627776, 1099511627777] : List Int) u) := by
  rcases hu with rfl | rfl | rfl | rfl
  ·exact h2
  ·exact k64.2.2.1
  ·exact k64.2.2.2.2.2.1
  ·exact k64.2.2.2.2.2.2
 unfold g19
 rw [if_pos (by omega), if_pos (by omega), if_pos (by omega), if_pos (by omega), if_pos (by omega), e]
 simp only [Option.bind_some, e4, e30]
 by_cases z0 : v = 0
 ·rw [if_pos z0, if_pos U]; exact ⟨_, rfl, ⟨by simp only []; omega, by simp only []; omega, by simp only []; omega, by simp only []; omega, by simp only []; omega⟩, ⟨R1, ⟨o1, o1'⟩, ⟨o2, o2'⟩, ⟨o3, o3'⟩, ⟨o4, o4'⟩, ⟨o5, o5'⟩, ⟨o6, o6'⟩⟩⟩
 rw [if_neg z0]
 by_cases z1 : v = 1
 ·rw [if_pos z1, if_pos U]; exact ⟨_, rfl, ⟨by simp only []; omega, by simp only []; omega, by simp only []; omega, by simp only []; omega, by simp only []; omega⟩, ⟨⟨o0, o0'⟩, R2, ⟨o2, o2'⟩, ⟨o3, o3'⟩, ⟨o4, o4'⟩, ⟨o5, o5'⟩, ⟨o6, o6'⟩⟩⟩
 rw [if_neg z1]
 by_cases z2 : v = 2
 ·rw [if_pos z2, if_pos (by omega)]; exact ⟨_, rfl, ⟨by simp; omega, by simp only []; omega, by simp only []; omega, by simp only []; omega, by simp only []; omega⟩, ⟨⟨o0, o0'⟩, ⟨o1, o1'⟩, ⟨by simp; omega, mem_snoc o2' h2⟩, ⟨o3, o3'⟩, ⟨o4, o4'⟩, ⟨o5, o5'⟩, ⟨o6, o6'⟩⟩⟩
 rw [if_neg z2]
 by_cases z3 : v = 3
 ·rw [if_pos z3, if_pos (by omega)]; exact ⟨_, rfl, ⟨by simp only []; omega, by simp; omega, by simp only []; omega, by simp only []; omega, by simp only []; omega⟩, ⟨⟨o0, o0'⟩, ⟨o1, o1'⟩, ⟨o2, o2'⟩, ⟨by simp; omega, mem_snoc o3' h2⟩, ⟨o4, o4'⟩, ⟨o5, o5'⟩, ⟨o6, o6'⟩⟩⟩
 rw [if_neg z3]
 by_cases z4 : v = 4
 ·rw [if_pos z4, if_pos (by omega)]; exact ⟨_, rfl, ⟨by simp only []; omega, by simp only []; omega, by simp; omega, by simp only []; omega, by simp only []; omega⟩, ⟨⟨o0, o0'⟩, ⟨o1, o1'⟩, ⟨o2, o2'⟩, ⟨o3, o3'⟩, ⟨by simp; omega, mem_snoc o4' (wrap_u64_range _)⟩, ⟨o5, o5'⟩, ⟨o6, o6'⟩⟩⟩
 rw [if_neg z4]
 by_cases z5 : v = 5
 ·rw [if_pos z5, if_pos (by omega)]; exact ⟨_, rfl, ⟨by simp only []; omega, by simp only []; omega, by simp only []; omega, by simp; omega, by simp only []; omega⟩, ⟨⟨o0, o0'⟩, ⟨o1, o1'⟩, ⟨o2, o2'⟩, ⟨o3, o3'⟩, ⟨o4, o4'⟩, ⟨by simp; omega, mem_snoc o5' ⟨by decide, by decide⟩⟩, ⟨o6, o6'⟩⟩⟩
 rw [if_neg z5]
 by_cases z6 : v = 6
 ·rw [if_pos z6, if_pos (by omega)]; exact ⟨_, rfl, ⟨by simp only []; omega, by simp only []; omega, by simp only []; omega, by simp only []; omega, by simp; omega⟩, ⟨⟨o0, o0'⟩, ⟨o1, o1'⟩, ⟨o2, o2'⟩, ⟨o3, o3'⟩, ⟨o4, o4'⟩, ⟨o5, o5'⟩, ⟨by simp; omega, mem_snoc o6' ⟨by decide, by decide⟩⟩⟩⟩
 rw [if_neg z6]
 have SAME : ∃ x, some r = some x ∧ small (b + 1) x ∧ okR x := ⟨r, rfl, ⟨by omega, by omega, by omega, by omega, by omega⟩, ⟨⟨o0, o0'⟩, ⟨o1, o1'⟩, ⟨o2, o2'⟩, ⟨o3, o3'⟩, ⟨o4, o4'⟩, ⟨o5, o5'⟩, ⟨o6, o6'⟩⟩⟩
 by_cases z7 : v = 7
 ·rw [if_pos z7]
  by_cases q : 0 < (r.c6.length : Int)
  ·rw [if_pos q, if_pos ⟨by omega, q⟩, if_pos (by omega), if_pos ⟨by omega, q⟩, if_pos (by omega)]
   exact ⟨_, rfl, ⟨by simp only []; omega, by simp only []; omega, by simp only []; omega, by simp only []; omega, by simp; omega⟩, ⟨⟨o0, o0'⟩, ⟨o1, o1'⟩, ⟨o2, o2'⟩, ⟨o3, o3'⟩, ⟨o4, o4'⟩, ⟨o5, o5'⟩, ⟨by simp; omega, mem_set0 o6' (wrap_u64_range _) 0⟩⟩⟩
  ·rw [if_neg q]; exact SAME
 rw [if_neg z7]
 by_cases z8 : v = 8
 ·rw [if_pos z8]
  by_cases q : 0 < (r.c2.length : Int)
  ·rw [if_pos q, if_pos ⟨by omega, q⟩, if_pos (by omega)]
   exact ⟨_, rfl, ⟨by simp; omega, by simp only []; omega, by simp only []; omega, by simp only []; omega, by simp only []; omega⟩, ⟨⟨o0, o0'⟩, ⟨o1, o1'⟩, ⟨by simp; omega, mem_set0 o2' h2 0⟩, ⟨o3, o3'⟩, ⟨o4, o4'⟩, ⟨o5, o5'⟩, ⟨o6, o6'⟩⟩⟩
  ·rw [if_neg q]; exact SAME
 rw [if_neg z8]; exact SAME
end Go.Av
end
