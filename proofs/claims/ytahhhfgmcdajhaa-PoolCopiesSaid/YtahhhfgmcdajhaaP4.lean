/- the plain law, part 4 -/
import Derived.Test.YtahhhfgmcdajhaaP3
set_option autoImplicit false
set_option linter.unusedSimpArgs false
set_option linter.unusedVariables false
set_option linter.unnecessarySimpa false
section
set_option linter.unusedSimpArgs false
set_option linter.unusedVariables false
set_option maxHeartbeats 1000000
namespace Go.Av
/-- times are small -/
structure Tm (s : PSt) : Prop where
 to : 0 < s.timeout ∧ s.timeout ≤ 1099511627776
 tk : ∀ j, j ∈ s.jobs → ∀ t, t ∈ j.tries → 0 ≤ t.tick ∧ t.tick ≤ 1099511627776
/-- a try of the model is running -/
def runM (s : PSt) (a2 : Int) (t : S7) : Bool := ((pFind s t.c0).map (·.ans.isNone)).getD false && !t.c4 && decide (a2 < IntKind.i64.wrap (t.c3 + s.timeout))
theorem g56_ok {n : Nat} (hn : 100000 < n) {s : PSt} {m : S9} (h : Rel s m) (hs : s.jobs.Pairwise (fun a b => a.id < b.id)) (hl : s.jobs.length ≤ 100000) {t : S7} (ht : t ∈ m.c4) (a2 : Int) : g56 n m t a2 = some (runM s a2 t) := by
 obtain ⟨j, hj, e⟩ := h.known t ht
 obtain ⟨i, hi, rfl⟩ := List.mem_iff_getElem.1 hj
 have hlen : m.c3.length = s.jobs.length := by rw [h.jobs, List.length_map]
 unfold g56 runM
 rw [g52_ok hn h hl, ← e, ixI_get hs hi, Option.bind_some, if_pos (by omega), if_pos (by rw [Int.toNat_natCast]; omega)]
 have e2 : rdn m.c3 (Int.toNat (i : Int)) = toJ s.jobs[i] := by rw [Int.toNat_natCast, rdn_get (by omega)]; simp [h.jobs]
 rw [e2]
 have hf : pFind s s.jobs[i].id = some s.jobs[i] := find_job hs hi
 rw [hf, h.to]
 simp only [Option.map_some, Option.getD_some]
 have ec : (toJ s.jobs[i]).c3 = s.jobs[i].ans.isSome := rfl
 rw [show s.jobs[i].ans.isNone = !s.jobs[i].ans.isSome from by simp, ← ec]
 by_cases hx : (toJ s.jobs[i]).c3 = true
 ·rw [if_pos hx, hx]; rfl
 ·rw [if_neg hx]
  by_cases hy : t.c4 = true
  ·rw [if_pos hy, hy]; simp
  ·rw [if_neg hy]; simp [hy, hx]
theorem l22_0_ok {n : Nat} (hn : 100000 < n) {s : PSt} {m : S9} (h : Rel s m) (hs : s.jobs.Pairwise (fun a b => a.id < b.id)) (hl : s.jobs.length ≤ 100000) (hm : m.c4.length ≤ 100000) (a1 a2 : Int) : ∀ (f i : Nat) (x7 : List Int), i ≤ m.c4.length → m.c4.length - i < f → x7.length + (m.c4.length - i) ≤ 100000 →
  l22_0 n m a1 a2 f x7 (i : Int) = if (m.c4.drop i).any (fun t => runM s a2 t && decide (t.c2 = a1)) = true then some (0, 0, false, 19, m) else l22_1 n m a1 a2 (x7 ++ ((m.c4.drop i).filter (runM s a2)).map (·.c0)) n 0 := by
 intro f
 induction f with
 | zero => intro i x7 _ hf; omega
 | succ f ih =>
  intro i x7 hi hf hx
  rw [l22_0]
  by_cases hc : i < m.c4.length
  ·rw [if_pos (by omega), if_pos (by omega), if_pos (by rw [Int.toNat_natCast]; omega), Int.toNat_natCast, rdn_get hc]
   have ee : (⟨m.c4[i].c0, m.c4[i].c1, m.c4[i].c2, m.c4[i].c3, m.c4[i].c4⟩ : S7) = m.c4[i] := rfl
   rw [ee, g56_ok hn h hs hl (List.getElem_mem hc), Option.bind_some, List.drop_eq_getElem_cons hc, List.any_cons, List.filter_cons, wrap1 (by omega)]
   cases hr : runM s a2 m.c4[i] with
   | false =>
    rw [if_neg (by simp), ih (i + 1) x7 (by omega) (by omega) (by omega)]
    simp
   | true =>
    rw [if_pos rfl]
    by_cases q : m.c4[i].c2 = a1
    ·rw [if_pos q]; simp [q]
    ·rw [if_neg q, if_pos (by omega), ih (i + 1) _ (by omega) (by omega) (by simp; omega)]
     simp [q]
  ·rw [if_neg (by omega), List.drop_eq_nil_of_le (by omega)]
   simp
/-- what runs in the model runs in the pool -/
theorem run_any {s : PSt} {m : S9} (h : Rel s m) (ht : Tm s) (hs : s.jobs.Pairwise (fun a b => a.id < b.id)) {a2 : Int} (h2 : 0 ≤ a2 ∧ a2 ≤ 1099511627776) (p : Int → Int → Bool) :
  (m.c4.any fun t => runM s a2 t && p t.c0 t.c2) = s.jobs.any fun j => pRun s a2 (fun x => p j.id x.worker) j := by
 rw [Bool.eq_iff_iff, List.any_eq_true, List.any_eq_true]
 have key : ∀ (j : PJob), j ∈ s.jobs → ∀ (x : PTry), x ∈ j.tries → (decide (a2 < IntKind.i64.wrap (x.tick + s.timeout)) = decide (IntKind.i64.wrap (a2 - x.tick) < s.timeout)) := by
  intro j hj x hx
  have q1 := ht.to
  have q2 := ht.tk j hj x hx
  rw [wrap_i64 (x := x.tick + s.timeout) (by omega) (by omega), wrap_i64 (x := a2 - x.tick) (by omega) (by omega)]
  by_cases c : a2 < x.tick + s.timeout
  ·rw [decide_eq_true c, decide_eq_true (by omega)]
  ·rw [decide_eq_false c, decide_eq_false (by omega)]
 constructor
 ·rintro ⟨t, htm, hq⟩
  obtain ⟨j, hj, e⟩ := h.known t htm
  obtain ⟨i, hi, rfl⟩ := List.mem_iff_getElem.1 hj
  have hf : pFind s t.c0 = some s.jobs[i] := by rw [← e]; exact find_job hs hi
  have h3 : t ∈ tryS s.jobs[i].id s.jobs[i].tries := by
   rw [← h.tries _ hj]; exact List.mem_filter.2 ⟨htm, by simp [e]⟩
  obtain ⟨k, hk, ek⟩ := List.mem_iff_getElem.1 h3
  simp only [tryS, List.length_mapIdx] at hk
  simp only [tryS, List.getElem_mapIdx] at ek
  refine ⟨s.jobs[i], hj, ?_⟩
  unfold runM at hq
  rw [hf] at hq
  unfold pRun
  simp only [Option.map_some, Option.getD_some, Bool.and_eq_true] at hq ⊢
  refine ⟨hq.1.1.1, List.any_eq_true.2 ⟨s.jobs[i].tries[k], List.getElem_mem hk, ?_⟩⟩
  rw [← key _ hj _ (List.getElem_mem hk)]
  rw [← ek] at hq
  simp only [Bool.and_eq_true]
  exact ⟨⟨hq.1.1.2, hq.1.2⟩, hq.2⟩
 ·rintro ⟨j, hj, hq⟩
  obtain ⟨i, hi, rfl⟩ := List.mem_iff_getElem.1 hj
  unfold pRun at hq
  simp only [Bool.and_eq_true] at hq
  obtain ⟨x, hx, hq2⟩ := List.any_eq_true.1 hq.2
  obtain ⟨k, hk, rfl⟩ := List.mem_iff_getElem.1 hx
  have h3 : (⟨s.jobs[i].id, (k : Int), s.jobs[i].tries[k].worker, s.jobs[i].tries[k].tick, s.jobs[i].tries[k].over⟩ : S7) ∈ tryS s.jobs[i].id s.jobs[i].tries := by
   refine List.mem_iff_getElem.2 ⟨k, by simpa [tryS] using hk, by simp [tryS]⟩
  rw [← h.tries _ hj] at h3
  refine ⟨_, (List.mem_filter.1 h3).1, ?_⟩
  have hf : pFind s s.jobs[i].id = some s.jobs[i] := find_job hs hi
  unfold runM
  simp only [hf, Option.map_some, Option.getD_some, Bool.and_eq_true]
  rw [key _ hj _ hx]
  simp only [Bool.and_eq_true] at hq2
  exact ⟨⟨⟨hq.1, hq2.1.1⟩, hq2.1.2⟩, hq2.2⟩
end Go.Av
end
