/- the plain law, part 12 -/
import Derived.Test.YtcgndadlcgnilaaGreatP11
set_option autoImplicit false
set_option linter.unusedSimpArgs false
set_option linter.unusedVariables false
set_option linter.unnecessarySimpa false
section
namespace Go.Av
/-- few proofs, each of them small -/
structure L5 (q : List (List S1)) : Prop where
 n : q.length ≤ 5
 a : ∀ p, p ∈ q → p.length ≤ 5 ∧ ∀ s, s ∈ p → okP s
theorem L5.l1 {q : List (List S1)} (h : L5 q) : q.length < 1000 := by have := h.n; omega
theorem L5.l2 {q : List (List S1)} (h : L5 q) : ∀ x, x ∈ q → x.length < 1000 := fun x hx => by have := (h.a x hx).1; omega
theorem L5.ok {q : List (List S1)} (h : L5 q) : okPs q := fun p hp => ⟨by have := (h.a p hp).1; omega, (h.a p hp).2⟩
theorem L5.few {q : List (List S1)} (h : L5 q) : few q := by
 have h1 := h.n
 have ht := tot_le 5 q (fun p hp => (h.a p hp).1)
 exact ⟨by omega, by omega, fun p hp => ⟨by have := (h.a p hp).1; omega, fun s hs => by have := ((h.a p hp).2 s hs).c4.1; omega⟩⟩
theorem L5.take {q : List (List S1)} (h : L5 q) (m : Nat) : L5 (q.take m) := ⟨by have := h.n; simp; omega, fun p hp => h.a p (List.mem_of_mem_take hp)⟩
theorem recs (a b c : S8) (h1 : small 12 a) (h2 : small 12 b) (h3 : small 12 c) : ∀ r, r ∈ [a, b, c] → small 12 r := by
 intro r hr
 simp only [List.mem_cons, List.not_mem_nil, or_false] at hr
 rcases hr with rfl | rfl | rfl <;> assumption
theorem small.mono {a b : Nat} {r : S8} (h : small a r) (k : a ≤ b) : small b r := ⟨Nat.le_trans h.c2 k, Nat.le_trans h.c3 k, Nat.le_trans h.c4 k, Nat.le_trans h.c5 k, Nat.le_trans h.c6 k⟩
theorem round4_0 (n : Nat) (hn : 1000 ≤ n) (v3 : S8 × List (List S1) × Bool) (v13 v21 : S8) (v36 : Int) (hr : small 12 v3.1) (hx : small 12 v13) (hy : small 12 v21) (hL : ∀ q, q ∈ ([v3.2.1, v3.2.1, List.take (Int.toNat v36) v3.2.1] : List (List (List S1))) → L5 q) (k x : Nat) (hx9 : x < 9) :
  l4_0 n v3 v13 v21 v36 (k + 1) (x : Int) = l4_0 n v3 v13 v21 v36 k ((x + 1 : Nat) : Int) := by
 have hq : IntKind.i64.wrap (Int.tdiv (x : Int) 3) = ((x / 3 : Nat) : Int) := by
  rw [Int.tdiv_eq_ediv_of_nonneg (by omega), wrap_i64 (by omega) (by omega)]; omega
 have hm : Int.tmod (x : Int) 3 = ((x % 3 : Nat) : Int) := by
  rw [Int.tmod_eq_emod_of_nonneg (by omega)]; omega
 have hR := recs v3.1 v13 v21 hr hx hy _ (mem_rd [v3.1, v13, v21] (x / 3) (by simp; omega))
 have hQ := hL _ (mem_rd ([v3.2.1, v3.2.1, List.take (Int.toNat v36) v3.2.1] : List (List (List S1))) (x % 3) (by simp; omega))
 obtain ⟨v, e1, e2, _⟩ := check_ok n hn _ _ hR.c2 hR.c3 hR.c4 hQ.ok hQ.few
 conv => lhs; unfold l4_0
 simp only [hq, hm, etaS8]
 have c3 : (0 : Int) ≤ ((x / 3 : Nat) : Int) ∧ ((x / 3 : Nat) : Int) < 3 := by omega
 have m3 : (0 : Int) ≤ ((x % 3 : Nat) : Int) ∧ ((x % 3 : Nat) : Int) < 3 := by omega
 rw [if_pos (show (x : Int) < 9 by omega), if_pos c3, if_pos m3, if_pos c3, if_pos m3]
 simp only [g21, Option.bind_some, etaS8]
 rw [g13_id n hn _ hQ.l1 hQ.l2]
 simp only [Option.bind_some, e1]
 rw [e2]
 simp only [Option.bind_some, if_true]
 rw [wsucc x (by omega)]
theorem end4_0 (n : Nat) (hn : 1000 ≤ n) (v3 : S8 × List (List S1) × Bool) (v13 v21 : S8) (v36 : Int) (hr : small 12 v3.1) (hx : small 12 v13) (hy : small 12 v21) (hL : ∀ q, q ∈ ([v3.2.1, v3.2.1, List.take (Int.toNat v36) v3.2.1] : List (List (List S1))) → L5 q) (hp : L5 v3.2.1) (hg : v3.2.2 = true → good n v3.1 v3.2.1) (hl : g17 n = some true) :
  l4_0 n v3 v13 v21 v36 n 0 = some true := by
 obtain ⟨k, rfl⟩ : ∃ k, n = k + 10 := ⟨n - 10, by omega⟩
 have R := round4_0 (k + 10) hn v3 v13 v21 v36 hr hx hy hL
 rw [show (0 : Int) = ((0 : Nat) : Int) from rfl, show k + 10 = (k + 9) + 1 from rfl, R (k + 9) 0 (by omega), R (k + 8) 1 (by omega), R (k + 7) 2 (by omega), R (k + 6) 3 (by omega), R (k + 5) 4 (by omega), R (k + 4) 5 (by omega), R (k + 3) 6 (by omega), R (k + 2) 7 (by omega), R (k + 1) 8 (by omega)]
 unfold l4_0
 rw [if_neg (by omega)]
 by_cases c : v3.2.2 = true
 ·rw [if_pos c]
  obtain ⟨v, e1, _, e3⟩ := check_ok (k + 10) hn v3.1 v3.2.1 hr.c2 hr.c3 hr.c4 hp.ok hp.few
  rw [e3 (hg c)] at e1
  simp only [g21, Option.bind_some, etaS8]
  rw [g13_id (k + 10) hn _ hp.l1 hp.l2]
  simp only [Option.bind_some, e1, if_true, hl]
 ·rw [if_neg c, hl]; rfl
theorem round4_1 (n : Nat) (hn : 1000 ≤ n) (v3 : S8 × List (List S1) × Bool) (v13 v21 : S8) (v101 v113 v129 : Int) (hr : small 12 v3.1) (hx : small 12 v13) (hy : small 12 v21) (hL : ∀ q, q ∈ ([v3.2.1, List.take v3.2.1.length (List.set v3.2.1 (Int.toNat v101) ((rdn v3.2.1 (Int.toNat v101)) ++ ([(⟨0, 0, 0, 0, ([IntKind.u64.wrap v113] : List Int), ([] : List Int), 0⟩ : S1)] : List S1))), List.take (Int.toNat v129) v3.2.1] : List (List (List S1))) → L5 q) (k x : Nat) (hx9 : x < 9) :
  l4_1 n v3 v13 v21 v101 v113 v129 (k + 1) (x : Int) = l4_1 n v3 v13 v21 v101 v113 v129 k ((x + 1 : Nat) : Int) := by
 have hq : IntKind.i64.wrap (Int.tdiv (x : Int) 3) = ((x / 3 : Nat) : Int) := by
  rw [Int.tdiv_eq_ediv_of_nonneg (by omega), wrap_i64 (by omega) (by omega)]; omega
 have hm : Int.tmod (x : Int) 3 = ((x % 3 : Nat) : Int) := by
  rw [Int.tmod_eq_emod_of_nonneg (by omega)]; omega
 have hR := recs v3.1 v13 v21 hr hx hy _ (mem_rd [v3.1, v13, v21] (x / 3) (by simp; omega))
 have hQ := hL _ (mem_rd ([v3.2.1, List.take v3.2.1.length (List.set v3.2.1 (Int.toNat v101) ((rdn v3.2.1 (Int.toNat v101)) ++ ([(⟨0, 0, 0, 0, ([IntKind.u64.wrap v113] : List Int), ([] : List Int), 0⟩ : S1)] : List S1))), List.take (Int.toNat v129) v3.2.1] : List (List (List S1))) (x % 3) (by simp; omega))
 obtain ⟨v, e1, e2, _⟩ := check_ok n hn _ _ hR.c2 hR.c3 hR.c4 hQ.ok hQ.few
 conv => lhs; unfold l4_1
 simp only [hq, hm, etaS8]
 have c3 : (0 : Int) ≤ ((x / 3 : Nat) : Int) ∧ ((x / 3 : Nat) : Int) < 3 := by omega
 have m3 : (0 : Int) ≤ ((x % 3 : Nat) : Int) ∧ ((x % 3 : Nat) : Int) < 3 := by omega
 rw [if_pos (show (x : Int) < 9 by omega), if_pos c3, if_pos m3, if_pos c3, if_pos m3]
 simp only [g21, Option.bind_some, etaS8]
 rw [g13_id n hn _ hQ.l1 hQ.l2]
 simp only [Option.bind_some, e1]
 rw [e2]
 simp only [Option.bind_some, if_true]
 rw [wsucc x (by omega)]
theorem end4_1 (n : Nat) (hn : 1000 ≤ n) (v3 : S8 × List (List S1) × Bool) (v13 v21 : S8) (v101 v113 v129 : Int) (hr : small 12 v3.1) (hx : small 12 v13) (hy : small 12 v21) (hL : ∀ q, q ∈ ([v3.2.1, List.take v3.2.1.length (List.set v3.2.1 (Int.toNat v101) ((rdn v3.2.1 (Int.toNat v101)) ++ ([(⟨0, 0, 0, 0, ([IntKind.u64.wrap v113] : List Int), ([] : List Int), 0⟩ : S1)] : List S1))), List.take (Int.toNat v129) v3.2.1] : List (List (List S1))) → L5 q) (hp : L5 v3.2.1) (hg : v3.2.2 = true → good n v3.1 v3.2.1) (hl : g17 n = some true) :
  l4_1 n v3 v13 v21 v101 v113 v129 n 0 = some true := by
 obtain ⟨k, rfl⟩ : ∃ k, n = k + 10 := ⟨n - 10, by omega⟩
 have R := round4_1 (k + 10) hn v3 v13 v21 v101 v113 v129 hr hx hy hL
 rw [show (0 : Int) = ((0 : Nat) : Int) from rfl, show k + 10 = (k + 9) + 1 from rfl, R (k + 9) 0 (by omega), R (k + 8) 1 (by omega), R (k + 7) 2 (by omega), R (k + 6) 3 (by omega), R (k + 5) 4 (by omega), R (k + 4) 5 (by omega), R (k + 3) 6 (by omega), R (k + 2) 7 (by omega), R (k + 1) 8 (by omega)]
 unfold l4_1
 rw [if_neg (by omega)]
 by_cases c : v3.2.2 = true
 ·rw [if_pos c]
  obtain ⟨v, e1, _, e3⟩ := check_ok (k + 10) hn v3.1 v3.2.1 hr.c2 hr.c3 hr.c4 hp.ok hp.few
  rw [e3 (hg c)] at e1
  simp only [g21, Option.bind_some, etaS8]
  rw [g13_id (k + 10) hn _ hp.l1 hp.l2]
  simp only [Option.bind_some, e1, if_true, hl]
 ·rw [if_neg c, hl]; rfl
theorem L5.set {q : List (List S1)} (h : L5 q) (h4 : ∀ p, p ∈ q → p.length ≤ 4) (i : Nat) (hi : i < q.length) (w : Int) : L5 (List.set q i (rdn q i ++ [⟨0, 0, 0, 0, [IntKind.u64.wrap w], [], 0⟩])) := by
 have hm : rdn q i ∈ q := by unfold rdn; rw [List.getD_eq_getElem?_getD, List.getElem?_eq_getElem hi, Option.getD_some]; exact List.getElem_mem _
 refine ⟨by rw [List.length_set]; exact h.n, fun p hp => ?_⟩
 rcases List.mem_or_eq_of_mem_set hp with hp | rfl
 ·exact h.a p hp
 ·refine ⟨by have := h4 _ hm; simp; omega, fun s hs => ?_⟩
  rcases List.mem_append.1 hs with hs | hs
  ·exact (h.a _ hm).2 s hs
  ·rw [List.mem_singleton.1 hs]
   exact ⟨⟨by show (0 : Int) ≤ 0; decide, by show (0 : Int) < _; decide⟩, ⟨by show (0 : Int) ≤ 0; decide, by show (0 : Int) < _; decide⟩, ⟨by show (0 : Int) ≤ 0; decide, by show (0 : Int) < _; decide⟩, ⟨by show (0 : Int) ≤ 0; decide, by show (0 : Int) < _; decide⟩, ⟨by simp, fun x hx => by rw [List.mem_singleton.1 hx]; exact wrap_u64_range _⟩, ⟨by simp, by simp⟩, ⟨by show (0 : Int) ≤ 0; decide, by show (0 : Int) < _; decide⟩⟩
theorem pureWC (l m : List Int) (a2 a3 a4 a5 : Int) (hl : ∀ n, n ∈ l → isI64 n) (hm : ∀ n, n ∈ m → isI64 n) (h2 : isI64 a2) (h3 : isI64 a3) (h4 : isI64 a4) (h5 : isI64 a5) : ∃ n, g4 n l m a2 a3 a4 a5 = some true := by
 refine ⟨1000, ?_⟩
 have hn : 1000 ≤ 1000 := Nat.le_refl _
 have hlv := lives
 generalize hN : 1000 = n at *
 have hn : 1000 ≤ n := by omega
 clear hN
 obtain ⟨v1, e1, _, _⟩ := ar n a2 9 h2 (by omega)
 obtain ⟨p, e2, p1, p2⟩ := g8_ok n hn l v1 hl
 obtain ⟨ps, p3, p4, e4⟩ := g10_ok n hn m p.1.length (by omega) hm
 obtain ⟨v12, e3, q1⟩ := g9_ok n hn m a3 hm h3
 have hP : L5 ps := ⟨by omega, fun q hq => ⟨by have := (p4 q hq).1; omega, (p4 q hq).2⟩⟩
 obtain ⟨r, e5, r1, r2⟩ := make14 n hn 5 v1 p.1 p.2 v12 ps (by omega) (by omega) hP.ok q1 hP.few
 have e18 : g18 n l m v1 a3 = some (r.1, ps, decide (r.2 = 0)) := by
  unfold g18
  rw [e2]; simp only [Option.bind_some]
  rw [e4]; simp only [Option.bind_some]
  rw [e3]; simp only [Option.bind_some]
  rw [e5]; rfl
 obtain ⟨x, e6, x1⟩ := bent_ok n r.1 5 (by omega) r1 a4 a5 h4 h5
 obtain ⟨y, e7, y1⟩ := bent_ok n x 6 (by omega) x1 (IntKind.i64.wrap (Int.tdiv a4 9)) (IntKind.i64.wrap (Int.tdiv a5 2)) (wrap_i64_range _) (wrap_i64_range _)
 have S1 := r1.mono (show 5 ≤ 12 by omega)
 have S2 := x1.mono (show 6 ≤ 12 by omega)
 have S3 := y1.mono (show 7 ≤ 12 by omega)
 have G : (decide (r.2 = 0)) = true → good n r.1 ps := fun h => r2 (of_decide_eq_true h)
 unfold g4
 rw [e1]; simp only [Option.bind_some]
 rw [e18]; simp only [Option.bind_some, etaS8]
 rw [e6]; simp only [Option.bind_some, etaS8]
 rw [e7]; simp only [Option.bind_some]
 obtain ⟨w, ew, w0, w1⟩ := ar n a5 ((ps.length : Int) + 1) h5 (by omega)
 have wl : IntKind.i64.wrap ((ps.length : Int) + 1) = (ps.length : Int) + 1 := wrap_i64 (by omega) (by omega)
 by_cases z : ps = []
 ·rw [if_neg (by simpa using z), if_pos (by omega)]
  rw [if_neg (by rw [z]; simp), wl, ew]
  simp only [Option.bind_some]
  rw [if_pos (by omega)]
  refine end4_0 n hn (r.1, ps, decide (r.2 = 0)) x y w S1 S2 S3 (fun q hq => ?_) hP G hlv
  simp only [List.mem_cons, List.not_mem_nil, or_false] at hq
  rcases hq with rfl | rfl | rfl
  ·exact hP
  ·exact hP
  ·exact hP.take _
 ·have zl : 0 < ps.length := List.length_pos_iff.2 z
  obtain ⟨i, ei, i0, i1⟩ := ar n a4 (ps.length : Int) h4 (by omega)
  obtain ⟨t, et, t0, t1⟩ := ar n a5 30 h5 (by omega)
  have hm' : rdn ps i.toNat ∈ ps := by unfold rdn; rw [List.getD_eq_getElem?_getD, List.getElem?_eq_getElem (by omega), Option.getD_some]; exact List.getElem_mem _
  have h4' := (p4 _ hm').1
  rw [if_pos z, if_pos (by omega), if_pos (by omega), ei]
  simp only [Option.bind_some]
  rw [if_pos (by omega), if_pos (by omega), if_pos (by omega), et]
  simp only [Option.bind_some]
  rw [if_pos (by omega), if_pos (by omega), if_pos (by omega), if_pos (by rw [List.length_set]; omega), wl, ew]
  simp only [Option.bind_some]
  rw [if_pos (by omega)]
  refine end4_1 n hn (r.1, ps, decide (r.2 = 0)) x y i t w S1 S2 S3 (fun q hq => ?_) hP G hlv
  simp only [List.mem_cons, List.not_mem_nil, or_false] at hq
  rcases hq with rfl | rfl | rfl
  ·exact hP
  ·exact (hP.set (fun q hq => (p4 q hq).1) i.toNat (by omega) t).take _
  ·exact hP.take _
end Go.Av
end
