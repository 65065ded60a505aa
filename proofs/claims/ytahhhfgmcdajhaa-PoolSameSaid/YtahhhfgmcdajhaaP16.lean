/- the plain law, part 16 -/
import Derived.Test.YtahhhfgmcdajhaaP15
set_option autoImplicit false
set_option linter.unusedSimpArgs false
set_option linter.unusedVariables false
set_option linter.unnecessarySimpa false
section
set_option linter.unusedSimpArgs false
set_option linter.unusedVariables false
set_option maxHeartbeats 2000000
namespace Go.Av
/-- a job of the law PoolSame: its number, its body, its answer -/
structure JP (E R : List (List Int)) (T : Int) (k i : Nat) (j : PJob) : Prop where
 id : j.id = ((3 * i : Nat) : Int)
 body : j.body = rdn E i
 ans : ∀ r, j.ans = some r → r.body = rdn R i
 tk : ∀ x, x ∈ j.tries → 0 ≤ x.tick ∧ x.tick ≤ T
 tl : j.tries.length ≤ k
structure SM (E R : List (List Int)) (W : Nat) (lim T : Int) (k : Nat) (s : PSt) : Prop where
 len : s.jobs.length = E.length
 job : ∀ i (h : i < s.jobs.length), JP E R T k i s.jobs[i]
 to : s.timeout = lim
 tick : 0 ≤ s.tick ∧ s.tick ≤ T
 al : s.alive.length = W
section
variable {E R : List (List Int)} {W : Nat} {lim T T' : Int} {k k' i : Nat} {s : PSt} {j : PJob}
theorem JP.up (h : JP E R T k i j) (h1 : T ≤ T') (h2 : k ≤ k') : JP E R T' k' i j := ⟨h.id, h.body, h.ans, fun x hx => by have := h.tk x hx; omega, by have := h.tl; omega⟩
theorem SM.up (h : SM E R W lim T k s) (h1 : T ≤ T') (h2 : k ≤ k') : SM E R W lim T' k' s := ⟨h.len, fun i hi => (h.job i hi).up h1 h2, h.to, by have := h.tick; omega, h.al⟩
theorem SM.sorted (h : SM E R W lim T k s) : s.jobs.Pairwise (fun a b => a.id < b.id) :=
 List.pairwise_iff_getElem.2 fun a b ha hb hab => by rw [(h.job a ha).id, (h.job b hb).id]; omega
theorem SM.tickTo (h : SM E R W lim T k s) {t : Int} (h1 : T ≤ t) : SM E R W lim t k { s with tick := t } := ⟨h.len, fun i hi => (h.job i hi).up h1 (Nat.le_refl _), h.to, by have := h.tick; simp only; omega, h.al⟩
theorem SM.upd (h : SM E R W lim T k s) {t : Int} (h1 : T ≤ t) (h2 : k ≤ k') {id : Int} {f : PJob → PJob} (hf : ∀ i (hi : i < s.jobs.length), s.jobs[i].id = id → JP E R t k' i (f s.jobs[i])) : SM E R W lim t k' (pUpd { s with tick := t } id f) := by
 refine ⟨by simp [pUpd, h.len], fun i hi => ?_, h.to, by have := h.tick; simp only [pUpd]; omega, h.al⟩
 have hi2 : i < s.jobs.length := by simpa [pUpd] using hi
 simp only [pUpd, List.getElem_map]
 split
 ·rename_i e; exact hf i hi2 e
 ·exact (h.job i hi2).up h1 h2
theorem SM.id_inj (h : SM E R W lim T k s) {a : Nat} (ha : a < s.jobs.length) {q : Nat} (e : s.jobs[a].id = ((3 * q : Nat) : Int)) : a = q := by
 rw [(h.job a ha).id] at e; omega
theorem sm_rev (h : SM E R W lim T k s) (w : Int) : SM E R W lim T k (pRevive s w).2 := by
 unfold pRevive; split
 ·exact h
 ·split
  ·exact h
  ·exact ⟨h.len, h.job, h.to, h.tick, by simp only [List.length_set]; exact h.al⟩
theorem sm_die (h : SM E R W lim T k s) {t : Int} (h1 : T ≤ t) (w : Int) : SM E R W lim t k (pDie s w t).2 := by
 unfold pDie; split
 ·exact h.up h1 (Nat.le_refl _)
 ·split
  ·exact h.up h1 (Nat.le_refl _)
  ·refine ⟨by simpa using h.len, fun i hi => ?_, h.to, by have := h.tick; simp only; omega, by simp only [List.length_set]; exact h.al⟩
   have hi2 : i < s.jobs.length := by simpa using hi
   have := (h.job i hi2).up h1 (Nat.le_refl _)
   simp only [List.getElem_map]
   exact ⟨this.id, this.body, this.ans, fun x hx => by obtain ⟨y, hy, rfl⟩ := List.mem_map.1 hx; exact this.tk y hy, by simpa using this.tl⟩
theorem sm_ans (h : SM E R W lim T k s) {t : Int} (h1 : T ≤ t) (id w q : Int) {body : List Int} (hb : ∀ i, i < E.length → id = ((3 * i : Nat) : Int) → body = rdn R i) : SM E R W lim t k (pAnswer s id w q body t).2.2 := by
 unfold pAnswer; split
 ·exact h.up h1 (Nat.le_refl _)
 ·split
  ·exact h.up h1 (Nat.le_refl _)
  ·split
   ·exact h.up h1 (Nat.le_refl _)
   ·split
    ·exact h.up h1 (Nat.le_refl _)
    ·split
     ·exact h.tickTo h1
     ·refine h.upd h1 (Nat.le_refl _) fun i hi e => ?_
      have hj := (h.job i hi).up h1 (Nat.le_refl _)
      refine ⟨hj.id, hj.body, fun r er => ?_, hj.tk, hj.tl⟩
      simp only [Option.some.injEq] at er
      subst er
      exact hb i (by rw [← h.len]; exact hi) (by rw [← e, hj.id])
theorem sm_ask (h : SM E R W lim T k s) {t : Int} (h1 : T ≤ t) (h0 : 0 ≤ T) (hk : k ≤ 1000) (w : Int) : ∃ x, pAsk s w t = some x ∧ SM E R W lim t (k + 1) x.2.2.2.2 ∧ (x.2.2.1 = true → ∃ i, i < E.length ∧ x.1.1 = ((3 * i : Nat) : Int) ∧ x.1.2 = rdn E i) := by
 have hu := h.up h1 (Nat.le_succ k)
 have ht := (h.tickTo h1).up (Int.le_refl _) (Nat.le_succ k)
 by_cases hc : pCheck s w t = 0
 ·by_cases ha : rdn s.alive w.toNat = true
  ·by_cases hb : s.jobs.any (pRun s t (fun x => decide (x.worker = w))) = true
   ·exact ⟨_, pAsk_busy hc ha hb, hu, fun e => by cases e⟩
   ·have e := pAsk_rest hc ha (by simpa using hb)
    cases hf : s.jobs.find? (cand s t) with
    | none => rw [hf] at e; exact ⟨_, e, ht, fun e => by cases e⟩
    | some j =>
     rw [hf] at e
     obtain ⟨i, hi, rfl⟩ := List.mem_iff_getElem.1 (List.mem_of_find?_eq_some hf)
     have hj := h.job i hi
     have := hj.tl
     simp only at e
     rw [if_pos (by omega)] at e
     refine ⟨_, e, ?_, fun _ => ⟨i, by rw [← h.len]; exact hi, hj.id, hj.body⟩⟩
     refine h.upd h1 (Nat.le_succ k) fun q hq e => ?_
     have hjq := h.job q hq
     have := hjq.tl
     refine ⟨hjq.id, hjq.body, hjq.ans, fun x hx => ?_, by simp; omega⟩
     rcases List.mem_append.1 hx with hx | hx
     ·have := hjq.tk x hx; omega
     ·rw [List.mem_singleton.1 hx]; simp only; omega
  ·exact ⟨_, pAsk_down hc (by simpa using ha), hu, fun e => by cases e⟩
 ·exact ⟨_, pAsk_err hc, hu, fun e => by cases e⟩
/-- the first m jobs are answered -/
def AN (s : PSt) (m : Nat) : Prop := ∀ q (h : q < s.jobs.length), q < m → s.jobs[q].ans.isSome = true
/-- worker 0 asks after all tries are over -/
theorem last_step (h : SM E R W lim T k s) (hl : 0 < lim ∧ lim ≤ 6) (ha : rdn s.alive 0 = true) (hW : 1 ≤ W) (hT : 0 ≤ T ∧ T ≤ 9000) (hR : ∀ i, i < E.length → (rdn R i).length ≤ 65536) (hk : k ≤ 1000) {m : Nat} (hm : AN s m) :
  ∃ x, pAsk s 0 (T + 7) = some x ∧ x.2.2.2.1 = 0 ∧ ((x.2.2.1 = false ∧ x.2.2.2.2.alive = s.alive ∧ SM E R W lim (T + 7) (k + 1) x.2.2.2.2 ∧ AN x.2.2.2.2 (m + 1)) ∨
   (x.2.2.1 = true ∧ ∃ i, i < E.length ∧ x.1.1 = ((3 * i : Nat) : Int) ∧ x.1.2 = rdn E i ∧ (pAnswer x.2.2.2.2 x.1.1 0 x.2.1 (rdn R i) (T + 7)).2.2.alive = s.alive ∧ SM E R W lim (T + 7) (k + 1) (pAnswer x.2.2.2.2 x.1.1 0 x.2.1 (rdn R i) (T + 7)).2.2 ∧ AN (pAnswer x.2.2.2.2 x.1.1 0 x.2.1 (rdn R i) (T + 7)).2.2 (m + 1))) := by
 have htk := h.tick
 have hal := h.al
 have hc : ∀ s' : PSt, s'.alive = s.alive → (s'.tick = s.tick ∨ s'.tick = T + 7) → pCheck s' 0 (T + 7) = 0 := by
  intro s' e1 e2
  unfold pCheck maxI
  rw [if_neg (by rw [e1]; omega), if_neg (by omega)]
 have hrun : ∀ (is : PTry → Bool) (j : PJob), j ∈ s.jobs → pRun s (T + 7) is j = false := by
  intro is j hj
  obtain ⟨i, hi, rfl⟩ := List.mem_iff_getElem.1 hj
  unfold pRun
  rw [Bool.and_eq_false_iff]; right
  rw [List.any_eq_false]
  intro x hx
  have hxt := (h.job i hi).tk x hx
  have hto := h.to
  rw [wrap_i64 (by omega) (by omega), hto, decide_eq_false (by omega)]
  simp
 have hrest := pAsk_rest (s := s) (w := 0) (t := T + 7) (hc s rfl (.inl rfl)) ha (by
  rw [List.any_eq_false]; intro j hj; rw [hrun _ j hj]; simp)
 have hcand : ∀ j, j ∈ s.jobs → cand s (T + 7) j = j.ans.isNone := by
  intro j hj; unfold cand; rw [hrun _ j hj]; simp
 cases hf : s.jobs.find? (cand s (T + 7)) with
 | none =>
  rw [hf] at hrest
  refine ⟨_, hrest, rfl, .inl ⟨rfl, rfl, (h.tickTo (by omega)).up (Int.le_refl _) (Nat.le_succ k), fun q hq _ => ?_⟩⟩
  have := List.find?_eq_none.1 hf s.jobs[q] (List.getElem_mem hq)
  rw [hcand _ (List.getElem_mem hq)] at this
  cases hs : s.jobs[q].ans with
  | none => rw [hs] at this; simp at this
  | some r => rfl
 | some j =>
  rw [hf] at hrest
  obtain ⟨hp, i, hi, rfl, hlt⟩ := List.find?_eq_some_iff_getElem.1 hf
  have hj := h.job i hi
  have htl := hj.tl
  have hnone : s.jobs[i].ans = none := by rw [hcand _ (List.getElem_mem hi)] at hp; simpa using hp
  have hbef : ∀ q (hq : q < i), (s.jobs[q]'(by omega)).ans.isSome = true := by
   intro q hq
   have := hlt q hq
   rw [hcand _ (List.getElem_mem _)] at this
   simpa using this
  have hmi : m ≤ i := by
   rcases Nat.lt_or_ge i m with q | q
   ·have := hm i hi q; rw [hnone] at this; cases this
   ·exact q
  simp only at hrest
  rw [if_pos (by omega), pUpd_set (s := { s with tick := T + 7 }) h.sorted hi] at hrest
  refine ⟨_, hrest, rfl, .inr ⟨rfl, i, by rw [← h.len]; exact hi, hj.id, hj.body, ?_⟩⟩
  simp only
  generalize hj1 : ({ s.jobs[i] with tries := s.jobs[i].tries ++ [⟨0, T + 7, false⟩] } : PJob) = j1
  have hs1 : SM E R W lim (T + 7) (k + 1) ⟨s.alive, s.timeout, T + 7, s.jobs.set i j1⟩ := by
   refine ⟨by simp only [List.length_set]; exact h.len, fun q hq => ?_, h.to, by simp only; omega, h.al⟩
   have hq2 : q < s.jobs.length := by simpa using hq
   simp only [List.getElem_set]
   split
   ·rename_i e; subst e
    rw [← hj1]
    refine ⟨hj.id, hj.body, hj.ans, fun x hx => ?_, by simp; omega⟩
    rcases List.mem_append.1 hx with hx | hx
    ·have := hj.tk x hx; omega
    ·rw [List.mem_singleton.1 hx]; simp only; omega
   ·exact (h.job q hq2).up (by omega) (Nat.le_succ k)
  have hi1 : i < (s.jobs.set i j1).length := by simpa using hi
  have hg1 : (s.jobs.set i j1)[i] = j1 := by simp
  have hid : j1.id = s.jobs[i].id := by rw [← hj1]
  have hfind : pFind ⟨s.alive, s.timeout, T + 7, s.jobs.set i j1⟩ s.jobs[i].id = some j1 := by
   have := find_job hs1.sorted hi1
   simp only [hg1, hid] at this
   exact this
  have hans : pAnswer ⟨s.alive, s.timeout, T + 7, s.jobs.set i j1⟩ s.jobs[i].id 0 (s.jobs[i].tries.length : Int) (rdn R i) (T + 7) = (true, 0, pUpd { (⟨s.alive, s.timeout, T + 7, s.jobs.set i j1⟩ : PSt) with tick := T + 7 } s.jobs[i].id (fun j => { j with ans := some ⟨0, (s.jobs[i].tries.length : Int), rdn R i⟩ })) := by
   unfold pAnswer
   have hc1 : pCheck ⟨s.alive, s.timeout, T + 7, s.jobs.set i j1⟩ 0 (T + 7) = 0 := hc ⟨s.alive, s.timeout, T + 7, s.jobs.set i j1⟩ rfl (.inr rfl)
   rw [if_neg (by rw [hc1]; simp), hfind]
   simp only
   have e1 : j1.tries.length = s.jobs[i].tries.length + 1 := by rw [← hj1]; simp
   have e2 : (rdn j1.tries s.jobs[i].tries.length).worker = 0 := by rw [← hj1]; simp [rdn]
   have e3 : j1.ans = none := by rw [← hj1]; exact hnone
   have e4 := hR i (by rw [← h.len]; exact hi)
   rw [if_neg (by rw [e1, Int.toNat_natCast, e2]; simp; omega), if_neg (by omega), if_neg (by rw [e3]; simp)]
  rw [hans]
  refine ⟨rfl, ?_, ?_⟩
  ·refine hs1.upd (Int.le_refl _) (Nat.le_refl _) fun q hq e => ?_
   have hjq := hs1.job q hq
   have eq : q = i := hs1.id_inj hq (by rw [e, hj.id])
   refine ⟨hjq.id, hjq.body, fun r er => ?_, hjq.tk, hjq.tl⟩
   simp only [Option.some.injEq] at er
   subst er; subst eq; rfl
  ·intro q hq hlt2
   have hq2 : q < s.jobs.length := by simpa [pUpd] using hq
   simp only [pUpd, List.getElem_map]
   split
   ·rfl
   ·rename_i hne
    have hqi : q ≠ i := by
     intro e; subst e
     apply hne; rw [hg1, hid]
    rw [List.getElem_set_ne (by omega)]
    exact hbef q (by omega)
end
end Go.Av
end
