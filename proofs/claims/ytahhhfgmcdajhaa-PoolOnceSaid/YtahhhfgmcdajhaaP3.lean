/- the plain law, part 3 -/
import Derived.Test.YtahhhfgmcdajhaaP2
set_option autoImplicit false
set_option linter.unusedSimpArgs false
set_option linter.unusedVariables false
set_option linter.unnecessarySimpa false
section
set_option linter.unusedSimpArgs false
set_option linter.unusedVariables false
set_option maxHeartbeats 2000000
namespace Go.Av
/-- a try that was given out, as the law PoolOnce notes it -/
def TR (lim : Int) (s : PSt) (c0 c1 c2 c3 : Int) : Prop := (0 ≤ c1 ∧ c1 < 4) ∧ 0 ≤ c2 ∧ ∃ j, j ∈ s.jobs ∧ j.id = c0 ∧ ∃ t, j.tries[c2.toNat]? = some t ∧ t.worker = c1 ∧ c3 = if t.over = true then 0 else t.tick + lim
def RelA (a : List Int) (j : PJob) : Prop := (j.ans = none ∧ rdn a j.id.toNat = 0) ∨ ∃ r, j.ans = some r ∧ r.body = [rdn a j.id.toNat] ∧ 0 < rdn a j.id.toNat ∧ rdn a j.id.toNat < 256
structure ON (lim tick : Int) (i : Nat) (s : PSt) (a : List Int) : Prop where
 al : s.alive.length = 4
 to : s.timeout = lim
 lm : 1 ≤ lim ∧ lim ≤ 9
 tk : s.tick = tick ∧ 0 ≤ tick ∧ tick ≤ 3 * (i : Int)
 sorted : s.jobs.Pairwise (fun a b => a.id < b.id)
 ids : ∀ j, j ∈ s.jobs → 0 ≤ j.id ∧ j.id ≤ 12
 al16 : a.length = 16
 rel : ∀ j, j ∈ s.jobs → RelA a j
 free : ∀ q : Nat, q < 16 → (∀ j, j ∈ s.jobs → j.id ≠ (q : Int)) → rdn a q = 0
 tt : ∀ j, j ∈ s.jobs → ∀ t, t ∈ j.tries → 0 ≤ t.tick ∧ t.tick ≤ tick
 tl : ∀ j, j ∈ s.jobs → j.tries.length ≤ i
 jl : s.jobs.length ≤ i
section
variable {lim tick : Int} {i : Nat} {s : PSt} {a : List Int}
theorem ON.next (h : ON lim tick i s a) : ON lim tick (i + 1) s a := ⟨h.al, h.to, h.lm, ⟨h.tk.1, h.tk.2.1, by have := h.tk.2.2; omega⟩, h.sorted, h.ids, h.al16, h.rel, h.free, h.tt, fun j hj => by have := h.tl j hj; omega, by have := h.jl; omega⟩
theorem ON.tickTo (h : ON lim tick i s a) {now : Int} (h1 : tick ≤ now) (h2 : now ≤ tick + 3) : ON lim now (i + 1) { s with tick := now } a := ⟨h.al, h.to, h.lm, ⟨rfl, by have := h.tk.2.1; omega, by have := h.tk.2.2; omega⟩, h.sorted, h.ids, h.al16, h.rel, h.free, fun j hj t ht => by have := h.tt j hj t ht; omega, fun j hj => by have := h.tl j hj; omega, by have := h.jl; simp only; omega⟩
theorem mem_upd {id : Int} {f : PJob → PJob} {t : Int} {j' : PJob} : j' ∈ (pUpd { s with tick := t } id f).jobs ↔ ∃ j, j ∈ s.jobs ∧ (if j.id = id then f j else j) = j' := by
 simp [pUpd]
/-- a job is changed -/
theorem ON.upd (h : ON lim tick i s a) {now : Int} (h1 : tick ≤ now) (h2 : now ≤ tick + 3) {id : Int} {f : PJob → PJob} {a' : List Int} (ha : a'.length = 16) (hid : ∀ j, (f j).id = j.id)
  (hold : ∀ q : Nat, (q : Int) ≠ id → rdn a' q = rdn a q) (hex : ∃ j, j ∈ s.jobs ∧ j.id = id) (hr : ∀ j, j ∈ s.jobs → j.id = id → RelA a' (f j)) (ht : ∀ j, j ∈ s.jobs → j.id = id → (∀ t, t ∈ (f j).tries → 0 ≤ t.tick ∧ t.tick ≤ now) ∧ (f j).tries.length ≤ i + 1) :
  ON lim now (i + 1) (pUpd { s with tick := now } id f) a' := by
 have hidm : ∀ {j j' : PJob}, (if j.id = id then f j else j) = j' → j'.id = j.id := by
  intro j j' e; subst e; split
  ·exact hid j
  ·rfl
 refine ⟨h.al, h.to, h.lm, ⟨rfl, by have := h.tk.2.1; omega, by have := h.tk.2.2; omega⟩, ?_, fun j' hj' => ?_, ha, fun j' hj' => ?_, fun q hq hn => ?_, fun j' hj' => ?_, fun j' hj' => ?_, by simp [pUpd]; have := h.jl; omega⟩
 ·simp only [pUpd, List.pairwise_map]
  exact h.sorted.imp fun {x y} hxy => by
   have e1 : (if x.id = id then f x else x).id = x.id := hidm rfl
   have e2 : (if y.id = id then f y else y).id = y.id := hidm rfl
   rw [e1, e2]; exact hxy
 ·obtain ⟨j, hj, e⟩ := mem_upd.1 hj'
  rw [hidm e]; exact h.ids j hj
 ·obtain ⟨j, hj, e⟩ := mem_upd.1 hj'
  by_cases c : j.id = id
  ·rw [if_pos c] at e; subst e; exact hr j hj c
  ·rw [if_neg c] at e; subst e
   have hj0 := h.ids j hj
   have : rdn a' j.id.toNat = rdn a j.id.toNat := hold _ (by omega)
   unfold RelA; rw [this]; exact h.rel j hj
 ·have hne : (q : Int) ≠ id := by
   intro e
   obtain ⟨j, hj, ej⟩ := hex
   have := hn (f j) (mem_upd.2 ⟨j, hj, if_pos ej⟩)
   rw [hid j] at this; omega
  rw [hold q hne]
  refine h.free q hq fun j hj e => ?_
  have := hn (if j.id = id then f j else j) (mem_upd.2 ⟨j, hj, rfl⟩)
  rw [hidm rfl] at this; exact this e
 ·obtain ⟨j, hj, e⟩ := mem_upd.1 hj'
  by_cases c : j.id = id
  ·rw [if_pos c] at e; subst e; exact (ht j hj c).1
  ·rw [if_neg c] at e; subst e
   intro t h3; have := h.tt j hj t h3; omega
 ·obtain ⟨j, hj, e⟩ := mem_upd.1 hj'
  by_cases c : j.id = id
  ·rw [if_pos c] at e; subst e; exact (ht j hj c).2
  ·rw [if_neg c] at e; subst e
   have := h.tl j hj; omega
theorem TR.upd {c0 c1 c2 c3 : Int} (h : TR lim s c0 c1 c2 c3) {now id : Int} {f : PJob → PJob} (hid : ∀ j, (f j).id = j.id) (hf : ∀ j (k : Nat) t, j.tries[k]? = some t → (f j).tries[k]? = some t) : TR lim (pUpd { s with tick := now } id f) c0 c1 c2 c3 := by
 obtain ⟨h1, h2, j, hj, e, t, h3, h4⟩ := h
 refine ⟨h1, h2, if j.id = id then f j else j, mem_upd.2 ⟨j, hj, rfl⟩, ?_, t, ?_, h4⟩
 ·split
  ·rw [hid]; exact e
  ·exact e
 ·split
  ·exact hf j _ t h3
  ·exact h3
theorem on_add (h : ON lim tick i s a) (hi : i ≤ 100) {N : Int} (hN : N ≤ 12) : ON lim tick (i + 1) (pAdd s N []).2 a ∧ ∀ {c0 c1 c2 c3 : Int}, TR lim s c0 c1 c2 c3 → TR lim (pAdd s N []).2 c0 c1 c2 c3 := by
 have hjl := h.jl
 unfold pAdd
 by_cases d0 : N < 0
 ·rw [if_pos d0]; exact ⟨h.next, fun x => x⟩
 ·rw [if_neg d0, if_neg (by simp; omega)]
  cases hf : pFind s N with
  | some j => exact ⟨h.next, fun x => x⟩
  | none =>
   have hne : ∀ j, j ∈ s.jobs → j.id ≠ N := by
    intro j hj e
    have := List.find?_eq_none.1 hf j hj
    simp [e] at this
   refine ⟨⟨h.al, h.to, h.lm, ⟨h.tk.1, h.tk.2.1, by have := h.tk.2.2; omega⟩, pIns_sorted h.sorted hne, fun j hj => ?_, h.al16, fun j hj => ?_, fun q hq hn => h.free q hq fun j hj => hn j (mem_pIns.2 (.inr hj)), fun j hj => ?_, fun j hj => ?_, by simp only [pIns_len]; omega⟩, fun x => ?_⟩
   ·rcases mem_pIns.1 hj with rfl | hj
    ·simp only; omega
    ·exact h.ids j hj
   ·rcases mem_pIns.1 hj with rfl | hj
    ·refine .inl ⟨rfl, h.free N.toNat (by omega) fun j hj => ?_⟩
     have := hne j hj
     simp only at *; omega
    ·exact h.rel j hj
   ·rcases mem_pIns.1 hj with rfl | hj
    ·intro t ht; cases ht
    ·exact h.tt j hj
   ·rcases mem_pIns.1 hj with rfl | hj
    ·simp
    ·have := h.tl j hj; omega
   ·obtain ⟨h1, h2, j, hj, e⟩ := x
    exact ⟨h1, h2, j, mem_pIns.2 (.inr hj), e⟩
theorem on_rev (h : ON lim tick i s a) (w : Int) : ON lim tick (i + 1) (pRevive s w).2 a ∧ ∀ {c0 c1 c2 c3 : Int}, TR lim s c0 c1 c2 c3 → TR lim (pRevive s w).2 c0 c1 c2 c3 := by
 unfold pRevive; split
 ·exact ⟨h.next, fun x => x⟩
 ·split
  ·exact ⟨h.next, fun x => x⟩
  ·have h' := h.next
   exact ⟨⟨by simp only [List.length_set]; exact h'.al, h'.to, h'.lm, h'.tk, h'.sorted, h'.ids, h'.al16, h'.rel, h'.free, h'.tt, h'.tl, h'.jl⟩, fun x => x⟩
theorem on_check (h : ON lim tick i s a) (hi : i ≤ 100) {now w : Int} (h1 : tick ≤ now) (h2 : now ≤ tick + 3) : (0 ≤ w ∧ w < 4 ∧ pCheck s w now = 0) ∨ pCheck s w now = 1 := by
 have htk := h.tk
 have hal := h.al
 unfold pCheck maxI
 by_cases c : 0 ≤ w ∧ w < 4
 ·rw [if_neg (by omega), if_neg (by omega)]; exact .inl ⟨c.1, c.2, rfl⟩
 ·rw [if_pos (.inl (by omega))]; exact .inr rfl
theorem on_die (h : ON lim tick i s a) (hi : i ≤ 100) {now : Int} (h1 : tick ≤ now) (h2 : now ≤ tick + 3) (w : Int) :
  ((pDie s w now).1 ≠ 0 ∧ (pDie s w now).2 = s) ∨ ((pDie s w now).1 = 0 ∧ ON lim now (i + 1) (pDie s w now).2 a ∧ ∀ {c0 c1 c2 c3 : Int}, TR lim s c0 c1 c2 c3 → TR lim (pDie s w now).2 c0 c1 c2 (if c1 = w then 0 else c3)) := by
 unfold pDie
 rcases on_check h hi h1 h2 (w := w) with ⟨w0, w1, hc⟩ | hc
 ·rw [if_neg (by rw [hc]; simp)]
  by_cases c : rdn s.alive w.toNat = false
  ·rw [if_pos c]; exact .inl ⟨by simp, rfl⟩
  ·rw [if_neg c]
   refine .inr ⟨rfl, ⟨by simp only [List.length_set]; exact h.al, h.to, h.lm, ⟨rfl, by have := h.tk.2.1; omega, by have := h.tk.2.2; omega⟩, ?_, fun j hj => ?_, h.al16, fun j hj => ?_, fun q hq hn => ?_, fun j hj => ?_, fun j hj => ?_, by simp; have := h.jl; omega⟩, ?_⟩
   ·simp only [List.pairwise_map]; exact h.sorted
   ·obtain ⟨j0, hj0, rfl⟩ := List.mem_map.1 hj; exact h.ids j0 hj0
   ·obtain ⟨j0, hj0, rfl⟩ := List.mem_map.1 hj; exact h.rel j0 hj0
   ·refine h.free q hq fun j hj => ?_
    exact hn ({ j with tries := j.tries.map fun x => { x with over := x.over || decide (x.worker = w) } } : PJob) (List.mem_map.2 ⟨j, hj, rfl⟩)
   ·obtain ⟨j0, hj0, rfl⟩ := List.mem_map.1 hj
    intro t ht
    obtain ⟨t0, ht0, rfl⟩ := List.mem_map.1 ht
    have := h.tt j0 hj0 t0 ht0
    simp only; omega
   ·obtain ⟨j0, hj0, rfl⟩ := List.mem_map.1 hj
    have := h.tl j0 hj0; simp; omega
   ·intro c0 c1 c2 c3 hx
    obtain ⟨q1, q2, j, hj, e, t, h3, h4, h5⟩ := hx
    refine ⟨q1, q2, _, List.mem_map.2 ⟨j, hj, rfl⟩, e, { t with over := t.over || decide (t.worker = w) }, by simp [h3], h4, ?_⟩
    by_cases d : c1 = w
    ·rw [if_pos d, if_pos (by simp [h4, d])]
    ·rw [if_neg d, h5]
     have : decide (t.worker = w) = false := decide_eq_false (by omega)
     simp only [this, Bool.or_false]
 ·rw [if_pos (by rw [hc]; simp)]; exact .inl ⟨by rw [hc]; simp, rfl⟩
theorem on_ask (h : ON lim tick i s a) (hi : i ≤ 100) {now : Int} (h1 : tick ≤ now) (h2 : now ≤ tick + 3) (w : Int) : ∃ x, pAsk s w now = some x ∧
  ((x.2.2.1 = false ∧ x.2.2.2.1 ≠ 0 ∧ x.2.2.2.2 = s) ∨ (x.2.2.1 = false ∧ x.2.2.2.1 = 0 ∧ x.2.2.2.2 = { s with tick := now }) ∨
  (x.2.2.1 = true ∧ x.2.2.2.1 = 0 ∧ (0 ≤ w ∧ w < 4) ∧ s.jobs.any (pRun s now (fun x => decide (x.worker = w))) = false ∧ ∃ j, j ∈ s.jobs ∧ j.id = x.1.1 ∧ j.ans = none ∧ pRun s now (fun _ => true) j = false ∧ x.2.1 = (j.tries.length : Int) ∧ x.2.2.2.2 = pUpd { s with tick := now } j.id (fun j => { j with tries := j.tries ++ [⟨w, now, false⟩] }))) := by
 rcases on_check h hi h1 h2 (w := w) with ⟨w0, w1, hc⟩ | hc
 ·by_cases ha : rdn s.alive w.toNat = true
  ·by_cases hb : s.jobs.any (pRun s now (fun x => decide (x.worker = w))) = true
   ·exact ⟨_, pAsk_busy hc ha hb, .inl ⟨rfl, by simp, rfl⟩⟩
   ·have hb' : s.jobs.any (pRun s now (fun x => decide (x.worker = w))) = false := by simpa using hb
    have e := pAsk_rest hc ha hb'
    cases hf : s.jobs.find? (cand s now) with
    | none => rw [hf] at e; exact ⟨_, e, .inr (.inl ⟨rfl, rfl, rfl⟩)⟩
    | some j =>
     rw [hf] at e
     have hj := List.mem_of_find?_eq_some hf
     have hcj := List.find?_some hf
     have htl := h.tl j hj
     simp only at e
     rw [if_pos (by omega)] at e
     unfold cand at hcj
     rw [Bool.and_eq_true] at hcj
     refine ⟨_, e, .inr (.inr ⟨rfl, rfl, ⟨w0, w1⟩, hb', j, hj, rfl, ?_, ?_, rfl, rfl⟩)⟩
     ·simpa using hcj.1
     ·simpa using hcj.2
  ·exact ⟨_, pAsk_down hc (by simpa using ha), .inl ⟨rfl, by simp, rfl⟩⟩
 ·exact ⟨_, pAsk_err (by rw [hc]; simp), .inl ⟨rfl, by simp only [hc]; simp, rfl⟩⟩
/-- a noted try that is not over is running -/
theorem TR.run (h : ON lim tick i s a) (hi : i ≤ 100) {now : Int} (h1 : tick ≤ now) (h2 : now ≤ tick + 3) {c0 c1 c2 c3 : Int} (hx : TR lim s c0 c1 c2 c3) (hlt : now < c3) (hz : rdn a c0.toNat = 0) :
  ∃ j, j ∈ s.jobs ∧ j.id = c0 ∧ pRun s now (fun _ => true) j = true ∧ pRun s now (fun x => decide (x.worker = c1)) j = true := by
 obtain ⟨q1, q2, j, hj, e, t, h3, h4, h5⟩ := hx
 have hov : t.over = false := by
  cases ho : t.over with
  | false => rfl
  | true => rw [if_pos ho] at h5; have := h.tk.2.1; omega
 rw [if_neg (by rw [hov]; simp)] at h5
 have hmem : t ∈ j.tries := List.mem_of_getElem? h3
 have htt := h.tt j hj t hmem
 have htk := h.tk
 have hlm := h.lm
 have hto := h.to
 have hnone : j.ans = none := by
  rcases h.rel j hj with ⟨q, _⟩ | ⟨r, _, _, q, _⟩
  ·exact q
  ·rw [e] at q; omega
 have hw : IntKind.i64.wrap (now - t.tick) = now - t.tick := wrap_i64 (by omega) (by omega)
 refine ⟨j, hj, e, ?_, ?_⟩
 ·unfold pRun
  rw [hnone, Bool.and_eq_true]
  refine ⟨rfl, List.any_eq_true.2 ⟨t, hmem, ?_⟩⟩
  rw [hov, hw, hto, decide_eq_true (by omega)]; rfl
 ·unfold pRun
  rw [hnone, Bool.and_eq_true]
  refine ⟨rfl, List.any_eq_true.2 ⟨t, hmem, ?_⟩⟩
  rw [hov, hw, hto, decide_eq_true (show now - t.tick < lim by omega)]; simp [h4]
theorem job_uniq {js : List PJob} (hs : js.Pairwise (fun a b => a.id < b.id)) {j k : PJob} (hj : j ∈ js) (hk : k ∈ js) (e : j.id = k.id) : j = k := by
 obtain ⟨x, hx, rfl⟩ := List.mem_iff_getElem.1 hj
 obtain ⟨y, hy, rfl⟩ := List.mem_iff_getElem.1 hk
 have := ids_inj hs hx hy e
 subst this; rfl
theorem find_mem {s : PSt} (hs : s.jobs.Pairwise (fun a b => a.id < b.id)) {j : PJob} (hj : j ∈ s.jobs) : pFind s j.id = some j := by
 obtain ⟨x, hx, rfl⟩ := List.mem_iff_getElem.1 hj
 exact find_job hs hx
/-- an answer to a noted try -/
theorem on_ans (h : ON lim tick i s a) (hi : i ≤ 100) {now : Int} (h1 : tick ≤ now) (h2 : now ≤ tick + 3) {c0 c1 c2 c3 b : Int} (hx : TR lim s c0 c1 c2 c3) (hb : 0 < b ∧ b < 256) :
  (pAnswer s c0 c1 c2 [b] now).2.1 = 0 ∧ (0 ≤ c0 ∧ c0 < 13) ∧ ((rdn a c0.toNat = 0 ∧ (pAnswer s c0 c1 c2 [b] now).1 = true ∧ ON lim now (i + 1) (pAnswer s c0 c1 c2 [b] now).2.2 (a.set c0.toNat b)) ∨ (rdn a c0.toNat ≠ 0 ∧ (pAnswer s c0 c1 c2 [b] now).1 = false ∧ ON lim now (i + 1) (pAnswer s c0 c1 c2 [b] now).2.2 a)) ∧
  ∀ {d0 d1 d2 d3 : Int}, TR lim s d0 d1 d2 d3 → TR lim (pAnswer s c0 c1 c2 [b] now).2.2 d0 d1 d2 d3 := by
 obtain ⟨q1, q2, j, hj, e, t, h3, h4, h5⟩ := hx
 have hids := h.ids j hj
 have hch : pCheck s c1 now = 0 := by
  rcases on_check h hi h1 h2 (w := c1) with ⟨_, _, hc⟩ | hc
  ·exact hc
  ·exfalso
   have htk := h.tk
   have hal := h.al
   unfold pCheck maxI at hc
   rw [if_neg (by omega), if_neg (by omega)] at hc
   cases hc
 have hk := (List.getElem?_eq_some_iff.1 h3)
 obtain ⟨hk1, hk2⟩ := hk
 have hrd : rdn j.tries c2.toNat = t := by simp [rdn, h3]
 have hcase : ¬ (c2 < 0 ∨ (j.tries.length : Int) ≤ c2 ∨ (rdn j.tries c2.toNat).worker ≠ c1) := by rw [hrd, h4]; simp; omega
 have hfind := find_mem h.sorted hj
 rw [e] at hfind
 have ha16 := h.al16
 rcases h.rel j hj with ⟨hn, hz⟩ | ⟨r, hr, hbd, hp, hq⟩
 ·have heq : pAnswer s c0 c1 c2 [b] now = (true, 0, pUpd { s with tick := now } c0 (fun j => { j with ans := some ⟨c1, c2, [b]⟩ })) := by
   unfold pAnswer
   rw [if_neg (by rw [hch]; simp), hfind]
   simp only
   rw [if_neg hcase, if_neg (by simp), if_neg (by rw [hn]; simp)]
  rw [heq]
  rw [e] at hz
  refine ⟨rfl, by omega, .inl ⟨hz, rfl, ?_⟩, fun {d0 d1 d2 d3} y => y.upd (fun _ => rfl) (fun _ _ _ h => h)⟩
  refine h.upd h1 h2 (by simp [ha16]) (fun _ => rfl) (fun q hq => ?_) ⟨j, hj, e⟩ (fun k hk ek => ?_) (fun k hk ek => ?_)
  ·have : c0.toNat ≠ q := by omega
   simp [rdn, List.getD_eq_getElem?_getD, List.getElem?_set_ne this]
  ·have hs : rdn (a.set c0.toNat b) k.id.toNat = b := by
    rw [ek]
    have : c0.toNat < a.length := by omega
    simp [rdn, List.getD_eq_getElem?_getD, this]
   exact .inr ⟨_, rfl, by rw [show ({ k with ans := some ⟨c1, c2, [b]⟩ } : PJob).id = k.id from rfl, hs], by rw [show ({ k with ans := some ⟨c1, c2, [b]⟩ } : PJob).id = k.id from rfl, hs]; exact hb.1, by rw [show ({ k with ans := some ⟨c1, c2, [b]⟩ } : PJob).id = k.id from rfl, hs]; exact hb.2⟩
  ·have h6 := h.tl k hk
   exact ⟨fun t ht => by have := h.tt k hk t ht; omega, by simp only; omega⟩
 ·have heq : pAnswer s c0 c1 c2 [b] now = (false, 0, { s with tick := now }) := by
   unfold pAnswer
   rw [if_neg (by rw [hch]; simp), hfind]
   simp only
   rw [if_neg hcase, if_neg (by simp), if_pos (by rw [hr]; rfl)]
  rw [heq]
  rw [e] at hp
  exact ⟨rfl, by omega, .inr ⟨by omega, rfl, h.tickTo h1 h2⟩, fun {d0 d1 d2 d3} y => y⟩
end
end Go.Av
end
