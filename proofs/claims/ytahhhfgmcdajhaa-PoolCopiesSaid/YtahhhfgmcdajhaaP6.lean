/- the plain law, part 6 -/
import Derived.Test.YtahhhfgmcdajhaaP5
set_option autoImplicit false
set_option linter.unusedSimpArgs false
set_option linter.unusedVariables false
set_option linter.unnecessarySimpa false
section
set_option linter.unusedSimpArgs false
set_option linter.unusedVariables false
set_option maxHeartbeats 1000000
namespace Go.Av
theorem take7 {s : PSt} {m : S9} (h : Rel s m) (ht : Tm s) (hs : s.jobs.Pairwise (fun a b => a.id < b.id)) {a2 : Int} (h2 : 0 ≤ a2 ∧ a2 ≤ 1099511627776) {j : PJob} (hj : j ∈ s.jobs) :
  decide (j.id ∈ (m.c4.filter (runM s a2)).map (·.c0)) = pRun s a2 (fun _ => true) j := by
 have hr := run_any h ht hs h2 (fun id _ => decide (id = j.id))
 rw [Bool.eq_iff_iff, decide_eq_true_eq]
 constructor
 ·intro hm
  obtain ⟨t, ht1, e⟩ := List.mem_map.1 hm
  obtain ⟨ht2, ht3⟩ := List.mem_filter.1 ht1
  have : (m.c4.any fun t => runM s a2 t && decide (t.c0 = j.id)) = true := List.any_eq_true.2 ⟨t, ht2, by simp [ht3, e]⟩
  rw [hr] at this
  obtain ⟨j', hj', hq⟩ := List.any_eq_true.1 this
  have hid : j'.id = j.id := by
   unfold pRun at hq
   simp only [Bool.and_eq_true] at hq
   obtain ⟨x, _, hx⟩ := List.any_eq_true.1 hq.2
   simp only [Bool.and_eq_true, decide_eq_true_eq] at hx
   exact hx.2
  obtain ⟨a, ha, rfl⟩ := List.mem_iff_getElem.1 hj
  obtain ⟨b, hb, rfl⟩ := List.mem_iff_getElem.1 hj'
  obtain rfl := ids_inj hs hb ha hid
  unfold pRun at hq ⊢
  simpa using hq
 ·intro hq
  have : (s.jobs.any fun j' => pRun s a2 (fun x => (fun id _ => decide (id = j.id)) j'.id x.worker) j') = true := List.any_eq_true.2 ⟨j, hj, by unfold pRun at hq ⊢; simpa using hq⟩
  rw [← hr] at this
  obtain ⟨t, ht1, ht2⟩ := List.any_eq_true.1 this
  simp only [Bool.and_eq_true, decide_eq_true_eq] at ht2
  exact List.mem_map.2 ⟨t, List.mem_filter.2 ⟨ht1, ht2.1⟩, ht2.2⟩
theorem tryS_add (id : Int) (l : List PTry) (x : PTry) : tryS id (l ++ [x]) = tryS id l ++ [⟨id, (l.length : Int), x.worker, x.tick, x.over⟩] := by
 simp [tryS, List.mapIdx_append]
theorem Rel.give {s : PSt} {m : S9} (h : Rel s m) (hs : s.jobs.Pairwise (fun a b => a.id < b.id)) {d : Nat} (hd : d < s.jobs.length) (w t : Int) :
  Rel { s with tick := t, jobs := s.jobs.set d (moreT w t s.jobs[d]) } ⟨m.c0, m.c1, t, (s.jobs.set d (moreT w t s.jobs[d])).map toJ, m.c4 ++ [⟨s.jobs[d].id, (s.jobs[d].tries.length : Int), w, t, false⟩]⟩ := by
 refine ⟨h.al, h.to, rfl, rfl, fun j hj => ?_, fun u hu => ?_⟩
 ·obtain ⟨k, hk, rfl⟩ := List.mem_iff_getElem.1 hj
  simp only [List.length_set] at hk
  simp only [List.getElem_set]
  rw [List.filter_append]
  by_cases e : d = k
  ·subst e
   simp only [if_true, reduceIte]
   have : (moreT w t s.jobs[d]).id = s.jobs[d].id := rfl
   rw [this, h.tries _ (List.getElem_mem hd)]
   simp only [moreT]
   rw [tryS_add]
   simp
  ·simp only [if_neg e]
   have hne : s.jobs[d].id ≠ s.jobs[k].id := fun q => e (ids_inj hs hd hk q)
   rw [h.tries _ (List.getElem_mem hk)]
   simp [hne]
 ·have hget : ∀ k (hk : k < s.jobs.length), ∃ j, j ∈ s.jobs.set d (moreT w t s.jobs[d]) ∧ j.id = s.jobs[k].id := by
   intro k hk
   refine ⟨(s.jobs.set d (moreT w t s.jobs[d]))[k]'(by simpa using hk), List.getElem_mem _, ?_⟩
   rw [List.getElem_set]
   by_cases e : d = k
   ·subst e; rw [if_pos rfl]; rfl
   ·rw [if_neg e]
  rcases List.mem_append.1 hu with hu | hu
  ·obtain ⟨j, hj, e⟩ := h.known u hu
   obtain ⟨k, hk, rfl⟩ := List.mem_iff_getElem.1 hj
   obtain ⟨j2, q1, q2⟩ := hget k hk
   exact ⟨j2, q1, by rw [q2, e]⟩
  ·obtain ⟨j2, q1, q2⟩ := hget d hd
   simp only [List.mem_singleton] at hu
   subst hu
   exact ⟨j2, q1, q2⟩
theorem g22_ok {n : Nat} (hn : 100000 < n) {s : PSt} {m : S9} (h : Rel s m) (ht : Tm s) (hs : s.jobs.Pairwise (fun a b => a.id < b.id)) (hl : s.jobs.length ≤ 100000) (hm : m.c4.length ≤ 100000) (htr : ∀ j, j ∈ s.jobs → j.tries.length ≤ 100000) (w t : Int) :
  ∃ x m', pAsk s w t = some x ∧ g22 n m w t = some (x.1.1, x.2.1, x.2.2.1, x.2.2.2.1, m') ∧ Rel x.2.2.2.2 m' ∧ m'.c4.length ≤ m.c4.length + 1 := by
 unfold g22
 rw [g55_ok h, Option.bind_some]
 by_cases hc : pCheck s w t = 0
 ·rw [if_pos hc]
  obtain ⟨k1, k2, k3, k4⟩ := pCheck_ok hc
  rw [if_pos (by rw [h.al]; exact k1), if_pos (by rw [h.al]; omega), h.al]
  by_cases ha : rdn s.alive w.toNat = true
  ·rw [if_pos ha]
   have e0 := l22_0_ok hn h hs hl hm w t n 0 [] (by omega) (by omega) (by simp; omega)
   rw [show ((0 : Nat) : Int) = 0 from rfl] at e0
   rw [e0, List.drop_zero, run_any h ht hs ⟨k2, k3⟩ (fun _ wk => decide (wk = w))]
   by_cases hb : s.jobs.any (pRun s t (fun x => decide (x.worker = w))) = true
   ·rw [if_pos hb]
    exact ⟨_, m, pAsk_busy hc ha hb, rfl, h, by omega⟩
   ·rw [if_neg hb]
    have hb' : s.jobs.any (pRun s t (fun x => decide (x.worker = w))) = false := by simpa using hb
    have hxl : (([] : List Int) ++ (m.c4.filter (runM s t)).map (·.c0)).length ≤ 100000 := by
     rw [List.nil_append, List.length_map]; exact Nat.le_trans (List.length_filter_le _ _) hm
    have e1 := l22_1_ok hn h.jobs hl hm htr w t _ hxl n 0 (by omega) (by omega)
    rw [show ((0 : Nat) : Int) = 0 from rfl] at e1
    rw [e1, List.drop_zero, List.nil_append]
    have hcc : ∀ j, j ∈ s.jobs → (j.ans.isNone && !decide (j.id ∈ (m.c4.filter (runM s t)).map (·.c0))) = cand s t j := by
     intro j hj
     rw [take7 h ht hs ⟨k2, k3⟩ hj]; rfl
    cases hf : s.jobs.findIdx? (fun j => j.ans.isNone && !decide (j.id ∈ (m.c4.filter (runM s t)).map (·.c0))) with
    | none =>
     have hnone : ∀ j, j ∈ s.jobs → cand s t j = false := by
      intro j hj
      rw [← hcc j hj]
      simpa using List.findIdx?_eq_none_iff.1 hf j hj
     exact ⟨_, _, pAsk_none hc ha hb' hnone, rfl, ⟨h.al, h.to, rfl, h.jobs, h.tries, h.known⟩, by simp⟩
    | some d =>
     obtain ⟨hd, q1, q2⟩ := List.findIdx?_eq_some_iff_getElem.1 hf
     rw [hcc _ (List.getElem_mem hd)] at q1
     have eg := pAsk_give hc ha hb' hd (by
      intro j hj
      obtain ⟨k, hk, rfl⟩ := List.mem_iff_getElem.1 hj
      have hk2 : k < d := by simp at hk; omega
      rw [List.getElem_take, ← hcc _ (List.getElem_mem _)]
      exact Bool.eq_false_iff.2 (q2 k hk2)) q1
     have := htr _ (List.getElem_mem hd)
     rw [if_pos (by omega)] at eg
     have eu := pUpd_set (s := { s with tick := t }) hs hd (fun j => { j with tries := j.tries ++ [⟨w, t, false⟩] })
     rw [eu] at eg
     refine ⟨_, _, eg, ?_, h.give hs hd w t, by simp⟩
     simp only [Nat.zero_add, rdn_get hd]
  ·rw [if_neg ha]
   exact ⟨_, m, pAsk_down hc (by simpa using ha), rfl, h, by omega⟩
 ·rw [if_neg hc]
  exact ⟨_, m, pAsk_err hc, rfl, h, by omega⟩
end Go.Av
end
