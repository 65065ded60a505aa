/- the plain law, part 17 -/
import Derived.Test.YtahhhfgmcdajhaaP16
set_option autoImplicit false
set_option linter.unusedSimpArgs false
set_option linter.unusedVariables false
set_option linter.unnecessarySimpa false
section
set_option linter.unusedSimpArgs false
set_option linter.unusedVariables false
set_option maxHeartbeats 4000000
namespace Go.Av
theorem al_add (s : PSt) (id : Int) (b : List Int) : (pAdd s id b).2.alive.length = s.alive.length := by
 unfold pAdd; split
 ·rfl
 ·split
  ·rfl
  ·split <;> rfl
theorem al_ans (s : PSt) (id w k : Int) (b : List Int) (t : Int) : (pAnswer s id w k b t).2.2.alive.length = s.alive.length := by
 unfold pAnswer; split
 ·rfl
 ·split
  ·rfl
  ·split
   ·rfl
   ·split
    ·rfl
    ·split <;> rfl
theorem al_die (s : PSt) (w t : Int) : (pDie s w t).2.alive.length = s.alive.length := by
 unfold pDie; split
 ·rfl
 ·split
  ·rfl
  ·simp
theorem al_rev (s : PSt) (w : Int) : (pRevive s w).2.alive.length = s.alive.length := by
 unfold pRevive; split
 ·rfl
 ·split
  ·rfl
  ·simp
theorem al_ask {s : PSt} {w t : Int} {x : (Int × List Int) × Int × Bool × Int × PSt} (e : pAsk s w t = some x) : x.2.2.2.2.alive.length = s.alive.length := by
 unfold pAsk at e
 split at e
 ·obtain rfl := Option.some.inj e; rfl
 ·split at e
  ·obtain rfl := Option.some.inj e; rfl
  ·split at e
   ·obtain rfl := Option.some.inj e; rfl
   ·split at e
    ·obtain rfl := Option.some.inj e; rfl
    ·split at e
     ·obtain rfl := Option.some.inj e; rfl
     ·cases e
/-- a step of a script: the pool and its model answer the same, and keep the bundle -/
theorem step_okA {n k : Nat} (hn : 100000 < n) (hk : k < 99999) {s : PSt} {m : S9} (h : GoodP s m k) (o : S10) : ∃ s' m', g19 n s m o = some (true, s', m') ∧ GoodP s' m' (k + 1) ∧ s'.alive.length = s.alive.length := by
 unfold g19
 have hans : ∀ id w q : Int, ∃ s' m', ((g15 n s (⟨id, w, q, o.c3⟩ : S2) (IntKind.i64.wrap (m.c2 + o.c4))).bind fun v39 => (g23 n m id w q o.c3 (IntKind.i64.wrap (m.c2 + o.c4))).bind fun v41 => if (v39.1 == v41.1) = true then (some ((decide (v39.2.1 = v41.2.1)), v39.2.2, v41.2.2)) else (some (false, v39.2.2, v41.2.2))) = some (true, s', m') ∧ GoodP s' m' (k + 1) ∧ s'.alive.length = s.alive.length := by
  intro id w q
  obtain ⟨m', e, hg⟩ := good_ans hn (by omega) h id w q o.c3 (IntKind.i64.wrap (m.c2 + o.c4))
  refine ⟨_, m', ?_, hg, al_ans _ _ _ _ _ _⟩
  unfold g15
  rw [Option.bind_some, e, Option.bind_some, if_pos (by simp)]
  simp
 by_cases c0 : o.c0 = 0
 ·rw [if_pos c0]
  obtain ⟨m', e, hg⟩ := good_add hn (by omega) h o.c2 o.c3
  refine ⟨_, m', ?_, hg, al_add _ _ _⟩
  unfold g12
  rw [Option.bind_some, e, Option.bind_some]
  simp
 ·rw [if_neg c0]
  by_cases c1 : o.c0 = 1
  ·rw [if_pos c1]
   obtain ⟨x, m', e1, e2, hg⟩ := good_ask hn (by omega) h o.c1 (IntKind.i64.wrap (m.c2 + o.c4))
   refine ⟨x.2.2.2.2, m', ?_, hg, al_ask e1⟩
   unfold g14
   rw [e1, Option.map_some, Option.bind_some, e2, Option.bind_some, if_pos rfl, if_pos (by simp), if_pos rfl, if_pos rfl]
   simp only
   rw [g52_ok hn hg.rel (by have := hg.jl; omega), Option.bind_some]
   by_cases hx : x.2.2.1 = true
   ·rw [if_pos hx]
    obtain ⟨i, hi, h1, h2⟩ := ask_at e1 hx
    have hm : m'.c3.length = x.2.2.2.2.jobs.length := by rw [hg.rel.jobs, List.length_map]
    rw [← h1, ixI_get hg.sorted hi, if_pos (by omega), if_pos (by omega), Int.toNat_natCast, if_pos (by omega), rdn_get (by omega)]
    have e3 : m'.c3[i]'(by omega) = toJ x.2.2.2.2.jobs[i] := by simp [hg.rel.jobs]
    rw [e3]
    have e4 : (toJ x.2.2.2.2.jobs[i]).c1 = x.1.2 := h2
    rw [e4, g34_ok hn (by rw [← h2]; have := (hg.bd _ (List.getElem_mem hi)).1; omega), Option.bind_some]
   ·rw [if_neg hx]
  ·rw [if_neg c1]
   by_cases c2 : o.c0 = 2
   ·rw [if_pos c2]
    by_cases d1 : 0 < (m.c4.length : Int)
    ·rw [if_pos d1]
     by_cases d2 : 0 < Int.tmod o.c2 5
     ·have hp : 0 ≤ o.c2 := by
       rcases Int.le_total 0 o.c2 with h | h
       ·exact h
       ·have e : Int.tmod o.c2 5 = -(Int.tmod (-o.c2) 5) := by rw [Int.neg_tmod, Int.neg_neg]
        have := Int.tmod_nonneg (a := -o.c2) 5 (by omega); omega
      have h1 : 0 ≤ Int.tmod o.c2 (m.c4.length : Int) := Int.tmod_nonneg _ hp
      have h2 := Int.tmod_lt_of_pos o.c2 d1
      rw [if_pos d2, if_pos (by omega), if_pos ⟨h1, h2⟩, if_pos (by omega)]
      exact hans _ _ _
     ·rw [if_neg d2]; exact hans _ _ _
    ·rw [if_neg d1]; exact hans _ _ _
   ·rw [if_neg c2]
    by_cases c3 : o.c0 = 3
    ·rw [if_pos c3]
     obtain ⟨m', e, hg⟩ := good_die hn (by omega) h o.c1 (IntKind.i64.wrap (m.c2 + o.c4))
     refine ⟨_, m', ?_, hg, al_die _ _ _⟩
     unfold g24
     rw [Option.bind_some, e, Option.bind_some]
     simp
    ·rw [if_neg c3]
     obtain ⟨m', e, hg⟩ := good_rev (n := n) h o.c1
     refine ⟨_, m', ?_, hg, al_rev _ _⟩
     unfold g26
     rw [Option.bind_some, e, Option.bind_some]
     simp
theorem l7_2_ok {n : Nat} (hn : 100000 < n) {x y : List S10} (hx : x.length ≤ 10) (hy : y.length ≤ 10) : ∀ (f i : Nat) (s t : PSt) (m d : S9), 11 - i < f → i ≤ 10 → GoodP s m (20 + i) → GoodP t d (20 + i) → l7_2 n x y f (i : Int) s m.c0 m.c3 m.c4 m.c1 m.c2 t d.c0 d.c3 d.c4 d.c1 d.c2 = some true := by
 intro f
 induction f with
 | zero => intro i s t m d hf; omega
 | succ f ih =>
  intro i s t m d hf hi h1 h2
  rw [l7_2]
  have hm : (⟨m.c0, m.c1, m.c2, m.c3, m.c4⟩ : S9) = m := rfl
  have hd : (⟨d.c0, d.c1, d.c2, d.c3, d.c4⟩ : S9) = d := rfl
  rw [hm, hd]
  have w1 : IntKind.i64.wrap ((i : Int) + 1) = ((i + 1 : Nat) : Int) := wrap1 (by omega)
  by_cases c1 : i < x.length
  ·rw [if_pos (by omega), if_pos (by omega)]
   obtain ⟨s', m', e, hg⟩ := step_ok hn (by omega) h1 (⟨(rd x (i : Int)).c0, (rd x (i : Int)).c1, (rd x (i : Int)).c2, (rd x (i : Int)).c3, (rd x (i : Int)).c4⟩ : S10)
   rw [e, Option.bind_some, if_pos rfl]
   by_cases c2 : i < y.length
   ·rw [if_pos (by omega), if_pos (by omega)]
    obtain ⟨t', d', e2, hg2⟩ := step_ok hn (by omega) h2 (⟨(rd y (i : Int)).c0, (rd y (i : Int)).c1, (rd y (i : Int)).c2, (rd y (i : Int)).c3, (rd y (i : Int)).c4⟩ : S10)
    rw [e2, Option.bind_some, if_pos rfl, w1]
    exact ih (i + 1) s' t' m' d' (by omega) (by omega) hg hg2
   ·rw [if_neg (by omega), w1]
    exact ih (i + 1) s' t m' d (by omega) (by omega) hg (h2.up (by omega))
  ·rw [if_neg (by omega)]
   by_cases c2 : i < y.length
   ·rw [if_pos (by omega), if_pos (by omega)]
    obtain ⟨t', d', e2, hg2⟩ := step_ok hn (by omega) h2 (⟨(rd y (i : Int)).c0, (rd y (i : Int)).c1, (rd y (i : Int)).c2, (rd y (i : Int)).c3, (rd y (i : Int)).c4⟩ : S10)
    rw [e2, Option.bind_some, if_pos rfl, w1]
    exact ih (i + 1) s t' m d' (by omega) (by omega) (h1.up (by omega)) hg2
   ·rw [if_neg (by omega), agr_ok hn (by omega) h1, Option.bind_some, if_pos rfl, agr_ok hn (by omega) h2, Option.bind_some, if_pos rfl, lives_n]
    rfl
theorem l7_1_ok {n : Nat} (hn : 100000 < n) {a1 a2 : List Int} (h1 : ∀ z, z ∈ a1 → isI64 z) (h2 : ∀ z, z ∈ a2 → isI64 z) {ops : List S10} (hl : ops.length ≤ 20) : ∀ (f i : Nat) (s : PSt) (m : S9), i ≤ ops.length → ops.length - i < f → GoodP s m i → s.alive.length = 3 → l7_1 n a1 a2 ops f (i : Int) s m.c0 m.c3 m.c4 m.c1 m.c2 = some true := by
 intro f
 induction f with
 | zero => intro i s m _ hf; omega
 | succ f ih =>
  intro i s m hi hf h ha
  rw [l7_1]
  have hm : (⟨m.c0, m.c1, m.c2, m.c3, m.c4⟩ : S9) = m := rfl
  rw [hm]
  by_cases c : i < ops.length
  ·rw [if_pos (by omega), if_pos (by omega)]
   obtain ⟨s', m', e, hg, ha'⟩ := step_okA hn (by omega) h (⟨(rd ops (i : Int)).c0, (rd ops (i : Int)).c1, (rd ops (i : Int)).c2, (rd ops (i : Int)).c3, (rd ops (i : Int)).c4⟩ : S10)
   rw [e, Option.bind_some, if_pos rfl, wrap1 (by omega)]
   exact ih (i + 1) s' m' (by omega) (by omega) hg (by rw [ha', ha])
  ·rw [if_neg (by omega)]
   have e29 : g29 n s = some s := by unfold g29; rw [if_pos (by omega)]
   have hjl := h.jl
   have hml := h.ml
   have hcl : m.c3.length = s.jobs.length := by rw [h.rel.jobs, List.length_map]
   have hal : m.c0.length = 3 := by rw [h.rel.al, ha]
   have e30 : g30 n m = some m := by unfold g30; rw [if_pos (by omega), if_pos (by omega), if_pos (by omega)]
   obtain ⟨x, e3, x1, _⟩ := g18_ok (n := n) (N := 10) (by omega) h1 (by omega)
   obtain ⟨y, e4, y1, _⟩ := g18_ok (n := n) (N := 10) (by omega) h2 (by omega)
   rw [show ((10 : Nat) : Int) = 10 from rfl] at e3 e4
   rw [e29, Option.bind_some, e30, Option.bind_some, e3, Option.bind_some, e4, Option.bind_some]
   exact l7_2_ok hn x1 y1 n 0 s s m m (by omega) (by omega) (h.up (by omega)) (h.up (by omega))
theorem purePCopies (a0 a1 a2 : List Int) (h0 : ∀ n, n ∈ a0 → isI64 n) (h1 : ∀ n, n ∈ a1 → isI64 n) (h2 : ∀ n, n ∈ a2 → isI64 n) : ∃ n, g7 n a0 a1 a2 = some true := by
 refine ⟨200000, ?_⟩
 unfold g7
 obtain ⟨q1, q2, q3⟩ := new_ok (n := 200000) (by omega) (w := 3) (t := 4) (by omega) (by omega)
 obtain ⟨ops, e3, o1, o2⟩ := g18_ok (n := 200000) (N := 20) (by omega) h0 (by omega)
 rw [show ((20 : Nat) : Int) = 20 from rfl] at e3
 unfold g10
 rw [q1, Option.bind_some, if_neg (by simp), q2, Option.bind_some, if_neg (by simp), if_pos rfl, e3, Option.bind_some]
 exact l7_1_ok (n := 200000) (by omega) h1 h2 o1 200000 0 _ _ (by omega) (by omega) q3 (by rfl)
end Go.Av
end
