/- the plain law, part 12 -/
import Derived.Test.YtcgndadlcgnilaaGreatP11
set_option autoImplicit false
set_option linter.unusedSimpArgs false
set_option linter.unusedVariables false
set_option linter.unnecessarySimpa false
section
namespace Go.Av
/-- few proofs, each of them small -/
structure L5 (q : List (List S1)) : Prop where
 n : q.length ≤ 5
 a : ∀ p, p ∈ q → p.length ≤ 5 ∧ ∀ s, s ∈ p → okP s
theorem L5.l1 {q : List (List S1)} (h : L5 q) : q.length < 1000 := by have := h.n; omega
theorem L5.l2 {q : List (List S1)} (h : L5 q) : ∀ x, x ∈ q → x.length < 1000 := fun x hx => by have := (h.a x hx).1; omega
theorem L5.ok {q : List (List S1)} (h : L5 q) : okPs q := fun p hp => ⟨by have := (h.a p hp).1; omega, (h.a p hp).2⟩
theorem L5.few {q : List (List S1)} (h : L5 q) : few q := by
 have h1 := h.n
 have ht := tot_le 5 q (fun p hp => (h.a p hp).1)
 exact ⟨by omega, by omega, fun p hp => ⟨by have := (h.a p hp).1; omega, fun s hs => by have := ((h.a p hp).2 s hs).c4.1; omega⟩⟩
theorem L5.take {q : List (List S1)} (h : L5 q) (m : Nat) : L5 (q.take m) := ⟨by have := h.n; simp; omega, fun p hp => h.a p (List.mem_of_mem_take hp)⟩

theorem l13o_1_id (n : Nat) (R : Int → List (List S1) → Option (List (List S1))) (a : List (List S1)) (x1 : List (List S1)) (i : Nat) (hi : i < a.length) (hx : x1.length ≤ 1000) (hj : (rd a (i : Int)).length ≤ 1000) (h9 : i ≤ 1000) :
  ∀ (k j : Nat) (acc : List S1), j ≤ (rd a (i : Int)).length → (rd a (i : Int)).length - j < k → acc.length = j → l13_o_1 n R a (i : Int) x1 k acc (j : Int) = R ((i + 1 : Nat) : Int) (x1 ++ [acc ++ (rd a (i : Int)).drop j])
 | 0, _, _, _, h, _ => by omega
 | k + 1, j, acc, h1, h2, h3 => by
  unfold l13_o_1
  rw [if_pos (by omega)]
  by_cases h : j < (rd a (i : Int)).length
  ·rw [if_pos (by omega), if_pos (by omega), if_pos (by omega), if_pos (by omega), wsucc j (by omega), l13o_1_id n R a x1 i hi hx hj h9 k (j + 1) _ (by omega) (by omega) (by simp [h3]), drop_cons (rd a (i : Int)) j h]
   simp
  ·rw [if_neg (by omega), if_pos (by omega), List.drop_eq_nil_of_le (by omega), wsucc i (by omega)]; simp
theorem l13o_0_id (n : Nat) (hn : 1000 ≤ n) (a : List (List S1)) (ha : a.length < 1000) (hs : ∀ x, x ∈ a → x.length < 1000) : ∀ (k i : Nat) (acc : List (List S1)), i ≤ a.length → a.length - i < k → acc.length = i → l13_o_0 n a k (i : Int) acc = some (acc ++ a.drop i)
 | 0, _, _, _, h, _ => by omega
 | k + 1, i, acc, h1, h2, h3 => by
  unfold l13_o_0
  by_cases h : i < a.length
  ·have hm := hs (rd a (i : Int)) (by rw [rd_nat a i h]; exact List.getElem_mem _)
   rw [if_pos (by omega)]
   have := l13o_1_id n (l13_o_0 n a k) a acc i h (by omega) (by omega) (by omega) n 0 [] (by omega) (by omega) rfl
   rw [show ((0 : Nat) : Int) = 0 from rfl] at this
   rw [this, l13o_0_id n hn a ha hs k (i + 1) _ (by omega) (by omega) (by simp [h3]), drop_cons a i h]
   simp
  ·rw [if_neg (by omega), List.drop_eq_nil_of_le (by omega)]; simp
theorem g13o_id (n : Nat) (hn : 1000 ≤ n) (a : List (List S1)) (ha : a.length < 1000) (hs : ∀ x, x ∈ a → x.length < 1000) : g13_o n a = some a := by
 have := l13o_0_id n hn a ha hs n 0 [] (by omega) (by omega) rfl
 simpa [g13_o] using this
/-- Check finds a proof that names an input, whatever was before -/
theorem l20_17 (n : Nat) (hn : 1000 ≤ n) (r : S8) (ps : List (List S1)) (ho : okPs ps) (hf : few ps) (h4 : r.c4.length < 900) (h6 : r.c6.length = ps.length) (hm : nam ps r.c4 = true) : ∀ (k i : Nat), ps.length - i < k → i ≤ ps.length →
  (ps.drop i).map (sm n) = r.c6.drop i → l20_0 n r ps k (i : Int) = some 17
 | 0, _, h, _, _ => by omega
 | k + 1, i, hk, hi, hd => by
  have hp := hf.1
  unfold l20_0
  by_cases c : i < ps.length
  ·have sk := sm_ok n hn ps ho _ (mem_rd ps i c)
   rw [if_pos (by omega), if_pos (by omega), if_pos (by omega), sk.1]
   simp only [Option.bind_some]
   rw [drop_cons ps i c, drop_cons r.c6 i (by omega)] at hd
   simp only [List.map_cons, List.cons.injEq] at hd
   rw [if_pos hd.1, wsucc i (by omega)]
   exact l20_17 n hn r ps ho hf h4 h6 hm k (i + 1) (by omega) (by omega) hd.2
  ·rw [if_neg (by omega), g35_ok n hn ps r.c4 h4 hf]
   simp only [Option.bind_some, hm, if_true]
theorem check17 (n : Nat) (hn : 1000 ≤ n) (r : S8) (ps : List (List S1)) (h2 : r.c2.length ≤ 12) (ho : okPs ps) (hf : few ps) (c0 : 0 ≤ r.c0 ∧ r.c0 < 4096) (c1 : 0 ≤ r.c1 ∧ r.c1 ≤ 1099511627776) (l3 : r.c3.length = r.c2.length) (l5 : r.c5.length = r.c2.length) (l6 : r.c6.length = r.c2.length) (lp : ps.length = r.c2.length)
  (i2 : Inc r.c2) (i3 : Inc r.c3) (i4 : Inc r.c4) (h4 : r.c4.length ≤ 12) (s6 : ps.map (sm n) = r.c6) (nm : nam ps r.c4 = true) : g20 n r ps = some 17 := by
 unfold g20 g32
 rw [if_pos c0.1, if_pos c0.2, if_pos c1.1]
 simp only [c1.2, decide_true, Option.bind_some, if_true]
 rw [if_pos (by omega), if_pos (by omega), if_pos (by omega), if_pos (by omega), if_neg (by omega), g34_inc n hn _ h2, g34_inc n hn _ (by omega), g44_inc n hn _ h4]
 simp only [Option.bind_some, i2, i3, i4, decide_true, if_true]
 exact l20_17 n hn r ps ho hf (by omega) (by omega) nm n 0 (by have := hf.1; omega) (by omega) (by simpa using s6)
theorem L5.set {q : List (List S1)} (h : L5 q) (h4 : ∀ p, p ∈ q → p.length ≤ 4) (i : Nat) (hi : i < q.length) (w : Int) : L5 (List.set q i (rdn q i ++ [⟨0, 0, 0, 0, [IntKind.u64.wrap w], [], 0⟩])) := by
 have hm : rdn q i ∈ q := by unfold rdn; rw [List.getD_eq_getElem?_getD, List.getElem?_eq_getElem hi, Option.getD_some]; exact List.getElem_mem _
 refine ⟨by rw [List.length_set]; exact h.n, fun p hp => ?_⟩
 rcases List.mem_or_eq_of_mem_set hp with hp | rfl
 ·exact h.a p hp
 ·refine ⟨by have := h4 _ hm; simp; omega, fun s hs => ?_⟩
  rcases List.mem_append.1 hs with hs | hs
  ·exact (h.a _ hm).2 s hs
  ·rw [List.mem_singleton.1 hs]
   exact ⟨⟨by show (0 : Int) ≤ 0; decide, by show (0 : Int) < _; decide⟩, ⟨by show (0 : Int) ≤ 0; decide, by show (0 : Int) < _; decide⟩, ⟨by show (0 : Int) ≤ 0; decide, by show (0 : Int) < _; decide⟩, ⟨by show (0 : Int) ≤ 0; decide, by show (0 : Int) < _; decide⟩, ⟨by simp, fun x hx => by rw [List.mem_singleton.1 hx]; exact wrap_u64_range _⟩, ⟨by simp, by simp⟩, ⟨by show (0 : Int) ≤ 0; decide, by show (0 : Int) < _; decide⟩⟩
theorem L5.setW {q : List (List S1)} (h : L5 q) (h4 : ∀ p, p ∈ q → p.length ≤ 4) (i : Nat) (hi : i < q.length) (w : Int) (hw : isU64 w) : L5 (List.set q i (rdn q i ++ [⟨0, 0, 0, 0, [w], [], 0⟩])) := by
 have e : IntKind.u64.wrap w = w := wrap_u64 hw.1 hw.2
 have := L5.set h h4 i hi w
 rwa [e] at this
theorem rdn_rd (l : List (List S1)) (i : Nat) : rdn l i = rd l (i : Int) := by simp [rdn, rd]
/-- the sums of the proofs are set, one by one -/
theorem l5_ok (n : Nat) (hn : 1000 ≤ n) (a4 : Int) (v10 : S8) (v14 : List (List S1)) (v17 : Int) (q : List (List S1)) (hq : List.set v14 (Int.toNat v17) ((rdn v14 (Int.toNat v17)) ++ ([(⟨0, 0, 0, 0, ([a4] : List Int), ([] : List Int), 0⟩ : S1)] : List S1)) = q)
  (ho : okPs q) (hl : q.length ≤ 900) (hg : g17 n = some true) (hc : g20 n (⟨v10.c0, v10.c1, v10.c2, v10.c3, [a4], v10.c5, q.map (sm n)⟩ : S8) q = some 17) : ∀ (k i : Nat) (x : List Int), q.length - i < k → i ≤ q.length → x.length = q.length → x.take i = (q.take i).map (sm n) →
  l5_0 n a4 v10 v14 v17 k (i : Int) x = some true
 | 0, _, _, h, _, _, _ => by omega
 | k + 1, i, x, hk, hi, hx, ht => by
  unfold l5_0
  rw [hq]
  by_cases c : i < q.length
  ·have sk := sm_ok n hn q ho _ (mem_rd q i c)
   rw [if_pos (by omega), if_pos (by omega), if_pos (by omega)]
   simp only [Int.toNat_natCast, rdn_rd]
   rw [sk.1]
   simp only [Option.bind_some]
   rw [if_pos (by omega), if_pos (by omega), wsucc i (by omega)]
   refine l5_ok n hn a4 v10 v14 v17 q hq ho hl hg hc k (i + 1) _ (by omega) (by omega) (by simpa using hx) ?_
   have e1 : q.take (i + 1) = q.take i ++ [rd q (i : Int)] := by
    rw [List.take_succ_eq_append_getElem c, rd_nat q i c]
   rw [e1, List.map_append, ← ht]
   apply List.ext_getElem
   ·simp; omega
   ·intro j h1 h2
    simp only [List.length_take, List.length_set] at h1
    by_cases hj : j < i
    ·rw [List.getElem_append_left (by simp; omega)]
     simp [List.getElem_take, List.getElem_set]; omega
    ·have : j = i := by omega
     subst this
     rw [List.getElem_append_right (by simp; omega)]
     simp [List.getElem_take, List.getElem_set]
  ·have hi' : i = q.length := by omega
   have hx' : x = q.map (sm n) := by
    rw [hi', List.take_of_length_le (by omega), List.take_of_length_le (by omega)] at ht
    exact ht
   rw [if_neg (by omega), hx', hc]
   simp only [Option.bind_some, if_true, hg]
theorem pureWN (l m : List Int) (a2 a3 a4 : Int) (hl : ∀ n, n ∈ l → isI64 n) (hm : ∀ n, n ∈ m → isI64 n) (h2 : isI64 a2) (h3 : isI64 a3) (h4 : isU64 a4) : ∃ n, g5 n l m a2 a3 a4 = some true := by
 refine ⟨1000, ?_⟩
 have hlv := lives
 have hn : 1000 ≤ 1000 := Nat.le_refl _
 generalize hN : 1000 = n at *
 have hn : 1000 ≤ n := by omega
 clear hN
 obtain ⟨v1, e1, _, _⟩ := ar n a2 9 h2 (by omega)
 obtain ⟨p, e2, p1, p2⟩ := g8_ok n hn l v1 hl
 obtain ⟨ps, p3, p4, e4⟩ := g10_ok n hn m p.1.length (by omega) hm
 obtain ⟨v12, e3, q1⟩ := g9_ok n hn m 0 hm ⟨by omega, by omega⟩
 have hP : L5 ps := ⟨by omega, fun q hq => ⟨by have := (p4 q hq).1; omega, (p4 q hq).2⟩⟩
 obtain ⟨r, e5, r1, r2⟩ := make14 n hn 5 v1 p.1 p.2 v12 ps (by omega) (by omega) hP.ok q1 hP.few
 have e18 : g18 n l m v1 0 = some (r.1, ps, decide (r.2 = 0)) := by
  unfold g18
  rw [e2]; simp only [Option.bind_some]
  rw [e4]; simp only [Option.bind_some]
  rw [e3]; simp only [Option.bind_some]
  rw [e5]; rfl
 unfold g5
 rw [e1]; simp only [Option.bind_some]
 rw [e18]; simp only [Option.bind_some]
 by_cases c : (decide (r.2 = 0)) = true
 ·rw [if_pos c]
  have G := r2 (of_decide_eq_true c)
  by_cases z : (ps.length : Int) = 0
  ·rw [if_pos z, hlv]; rfl
  ·rw [if_neg z]
   simp only [g21, Option.bind_some, etaS8]
   rw [g13o_id n hn ps hP.l1 hP.l2]
   simp only [Option.bind_some]
   obtain ⟨i, ei, i0, i1⟩ := ar n a3 (ps.length : Int) h3 (by omega)
   rw [ei]; simp only [Option.bind_some]
   have hi : i.toNat < ps.length := by omega
   have hm' : rdn ps i.toNat ∈ ps := by unfold rdn; rw [List.getD_eq_getElem?_getD, List.getElem?_eq_getElem hi, Option.getD_some]; exact List.getElem_mem _
   have h4' := (p4 _ hm').1
   have hc6 := r1.c6
   rw [if_pos (by omega), if_pos hi, if_pos (by omega), if_pos (by omega), if_pos (by omega), if_pos hi, if_pos (by omega)]
   have hQ := hP.setW (fun q hq => (p4 q hq).1) i.toNat hi a4 h4
   have hql : (List.set ps i.toNat (rdn ps i.toNat ++ [(⟨0, 0, 0, 0, [a4], [], 0⟩ : S1)])).length = ps.length := List.length_set
   have hlp := G.lp
   refine l5_ok n hn a4 r.1 ps i _ rfl hQ.ok (by have := hQ.n; omega) hlv ?_ n 0 r.1.c6 (by have := hQ.n; omega) (by omega) (by rw [hql, hlp, G.l6]) (by simp)
   refine check17 n hn _ _ (by have := r1.c2; simpa using by omega) hQ.ok hQ.few G.c0 G.c1 G.l3 G.l5 (by simp [hlp]) (by simp [hlp]) G.i2 G.i3 (List.pairwise_singleton ..) (by simp) rfl ?_
   unfold nam
   rw [List.any_eq_true]
   refine ⟨rdn ps i.toNat ++ [⟨0, 0, 0, 0, [a4], [], 0⟩], ?_, ?_⟩
   ·rw [List.mem_iff_getElem]
    exact ⟨i.toNat, by rw [hql]; exact hi, by simp⟩
   ·rw [List.any_eq_true]
    refine ⟨⟨0, 0, 0, 0, [a4], [], 0⟩, by simp, ?_⟩
    simp
 ·rw [if_neg c, hlv]; rfl
end Go.Av
end
