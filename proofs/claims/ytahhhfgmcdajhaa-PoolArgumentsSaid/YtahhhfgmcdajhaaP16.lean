/- the plain law, part 16 -/
import Derived.Test.YtahhhfgmcdajhaaP15
set_option autoImplicit false
set_option linter.unusedSimpArgs false
set_option linter.unusedVariables false
set_option linter.unnecessarySimpa false
section
set_option linter.unusedSimpArgs false
set_option linter.unusedVariables false
set_option maxHeartbeats 4000000
namespace Go.Av
def argRest (n : Nat) (a2 a3 a4 : Int) : Option Bool := ((g10 n 2 5).bind fun v7 => if Option.isNone v7.1 = true then ((g17 n 2 5).bind fun v9 => if Option.isNone v9 = true then (some false) else (some false)) else ((g17 n 2 5).bind fun v13 => if Option.isNone v13 = true then (if v7.2 = 0 then ((g12 n (Option.getD v7.1 default) (⟨a4, ([] : List Int)⟩ : S1)).bind fun v16 => none) else (some false)) else (if v7.2 = 0 then ((g12 n (Option.getD v7.1 default) (⟨a4, ([] : List Int)⟩ : S1)).bind fun v20 => (g21 n (Option.getD v13 default) a4 ([] : List Int)).bind fun v22 => if v20.1 = v22.1 then ((g12 n v20.2 (⟨3, ([1] : List Int)⟩ : S1)).bind fun v25 => (g21 n v22.2 3 ([1] : List Int)).bind fun v27 => if v25.1 = v27.1 then ((g12 n v25.2 (⟨a4, ([] : List Int)⟩ : S1)).bind fun v30 => (g21 n v27.2 a4 ([] : List Int)).bind fun v32 => if v30.1 = v32.1 then ((g12 n v30.2 (⟨4, List.replicate (Int.toNat 65537) 0⟩ : S1)).bind fun v36 => if v36.1 = 4 then ((g14 n v36.2 a2 a3).bind fun v39 => (g22 n v32.2 a2 a3).bind fun v43 => if v39.1.c0 = v43.1 then (if v39.2.1 = v43.2.1 then (if (v39.2.2.1 == v43.2.2.1) = true then (if v39.2.2.2.1 = v43.2.2.2.1 then ((g15 n v39.2.2.2.2 (⟨a4, a2, 0, ([] : List Int)⟩ : S2) a3).bind fun v49 => (g23 n v43.2.2.2.2 a4 a2 0 ([] : List Int) a3).bind fun v51 => if (v49.1 == v51.1) = true then (if v49.2.1 = v51.2.1 then ((g14 n v49.2.2 0 3).bind fun v55 => (g22 n v51.2.2 0 3).bind fun v57 => (g15 n v55.2.2.2.2 (⟨3, 0, 0, List.replicate (Int.toNat 65537) 0⟩ : S2) 1099511627776).bind fun v60 => (g23 n v57.2.2.2.2 3 0 0 (List.replicate (Int.toNat 65537) 0) 1099511627776).bind fun v63 => if v60.2.1 = v63.2.1 then ((g24 n v60.2.2 a2 a3).bind fun v66 => (g25 n v63.2.2 a2 a3).bind fun v68 => if v66.1 = v68.1 then ((g26 n v66.2 a2).bind fun v71 => (g27 n v68.2 a2).bind fun v73 => if v71.1 = v73.1 then ((g20 n v71.2 v73.2).bind fun v76 => if v76 = true then ((g16 n ).bind fun v79 => some v79) else (some false)) else (some false)) else (some false)) else (some false)) else (some false)) else (some false)) else (some false)) else (some false)) else (some false)) else (some false)) else (some false)) else (some false)) else (some false)) else (some false)) else (some false))))
theorem new_bad {n : Nat} {w t : Int} (h : ¬ ((1 ≤ w ∧ w ≤ 64) ∧ (1 ≤ t ∧ t ≤ 1099511627776))) : pNew w t = (none, 1) ∧ g17 n w t = some none := by
 refine ⟨?_, ?_⟩
 ·unfold pNew maxI; rw [if_pos (by omega)]
 ·unfold g17
  by_cases c1 : w < 1
  ·rw [if_pos c1]
  ·rw [if_neg c1]
   by_cases c2 : 64 < w
   ·rw [if_pos c2]
   ·rw [if_neg c2]
    by_cases c3 : t < 1
    ·rw [if_pos c3]
    ·rw [if_neg c3, if_pos (by omega)]
theorem lives_any (n : Nat) : g16 n = some true := by
 have h := lives_ok
 unfold g16 at h ⊢
 exact h
theorem argRest_ok {n : Nat} (hn : 100000 < n) (a2 a3 a4 : Int) : argRest n a2 a3 a4 = some true := by
 unfold argRest g10
 generalize hbig : List.replicate (Int.toNat 65537) (0 : Int) = big
 have hlen : big.length = 65537 := by rw [← hbig, List.length_replicate]; rfl
 obtain ⟨q1, q2, q3⟩ := new_ok (n := n) hn (w := 2) (t := 5) (by omega) (by omega)
 generalize hs0 : (⟨List.replicate (Int.toNat 2) true, 5, 0, []⟩ : PSt) = s0 at *
 generalize hm0 : (⟨List.replicate (Int.toNat 2) true, 5, 0, [], []⟩ : S9) = m0 at *
 rw [q1, Option.bind_some, if_neg (by simp), q2, Option.bind_some, if_neg (by simp), if_pos rfl]
 unfold g12
 simp only [Option.getD_some]
 obtain ⟨m1, e1, k1⟩ := good_add hn (by omega) q3 a4 []
 rw [Option.bind_some, e1, Option.bind_some, if_pos rfl]
 obtain ⟨m2, e2, k2⟩ := good_add hn (by omega) k1 3 [1]
 rw [Option.bind_some, e2, Option.bind_some, if_pos rfl]
 obtain ⟨m3, e3, k3⟩ := good_add hn (by omega) k2 a4 []
 rw [Option.bind_some, e3, Option.bind_some, if_pos rfl]
 have hb : ∀ s : PSt, pAdd s 4 big = (4, s) := by
  intro s; unfold pAdd; rw [if_neg (by omega), if_pos (.inl (by omega))]
 simp only [hb]
 rw [Option.bind_some, if_pos rfl]
 obtain ⟨x4, m4, e4, f4, k4⟩ := good_ask hn (by omega) k3 a2 a3
 unfold g14
 simp only
 rw [e4, Option.map_some, Option.bind_some, f4, Option.bind_some, if_pos rfl, if_pos rfl, if_pos (by simp), if_pos rfl]
 unfold g15
 simp only
 obtain ⟨m5, e5, k5⟩ := good_ans hn (by omega) k4 a4 a2 0 [] a3
 rw [Option.bind_some, e5, Option.bind_some, if_pos (by simp), if_pos rfl]
 obtain ⟨x6, m6, e6, f6, k6⟩ := good_ask hn (by omega) k5 0 3
 simp only
 rw [e6, Option.map_some, Option.bind_some, f6, Option.bind_some]
 obtain ⟨m7, e7, k7⟩ := good_ans hn (by omega) k6 3 0 0 big 1099511627776
 simp only
 rw [Option.bind_some, e7, Option.bind_some, if_pos rfl]
 unfold g24
 simp only
 obtain ⟨m8, e8, k8⟩ := good_die hn (by omega) k7 a2 a3
 rw [Option.bind_some, e8, Option.bind_some, if_pos rfl]
 unfold g26
 obtain ⟨m9, e9, k9⟩ := good_rev (n := n) k8 a2
 simp only
 rw [Option.bind_some, e9, Option.bind_some, if_pos rfl, agr_ok hn (by omega) k9, Option.bind_some, if_pos rfl, lives_any]
 rfl
theorem purePArgs (a0 a1 a2 a3 a4 : Int) (h0 : isI64 a0) (h1 : isI64 a1) (h2 : isI64 a2) (h3 : isI64 a3) (h4 : isI64 a4) : ∃ n, g5 n a0 a1 a2 a3 a4 = some true := by
 refine ⟨200000, ?_⟩
 have hr := argRest_ok (n := 200000) (by omega) a2 a3 a4
 have hu : ∀ w t : Int, g10 200000 w t = some (pNew w t) := fun _ _ => rfl
 unfold g5
 by_cases c : (1 ≤ a0 ∧ a0 ≤ 64) ∧ (1 ≤ a1 ∧ a1 ≤ 1099511627776)
 ·obtain ⟨p1, p2, p3⟩ := new_ok (n := 200000) (by omega) c.1 c.2
  rw [hu a0 a1, p1, Option.bind_some, if_neg (by simp), p2, Option.bind_some, if_neg (by simp), if_pos rfl]
  exact hr
 ·obtain ⟨p1, p2⟩ := new_bad (n := 200000) c
  rw [hu a0 a1, p1, Option.bind_some, if_pos (by simp), p2, Option.bind_some, if_pos (by simp), if_neg (by decide), if_pos rfl]
  exact hr
end Go.Av
end
