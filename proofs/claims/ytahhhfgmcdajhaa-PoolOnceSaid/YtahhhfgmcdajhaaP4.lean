/- the plain law, part 4 -/
import Derived.Test.YtahhhfgmcdajhaaP3
set_option autoImplicit false
set_option linter.unusedSimpArgs false
set_option linter.unusedVariables false
set_option linter.unnecessarySimpa false
section
set_option linter.unusedSimpArgs false
set_option linter.unusedVariables false
set_option maxHeartbeats 4000000
set_option maxRecDepth 4000
namespace Go.Av
def TRs (lim : Int) (s : PSt) (tr : List S11) : Prop := ∀ y, y ∈ tr → TR lim s y.c0 y.c1 y.c2 y.c3
theorem wsuc {i : Nat} (h : i < 1000000) : IntKind.i64.wrap ((i : Int) + 1) = ((i + 1 : Nat) : Int) := by rw [wrap_i64 (by omega) (by omega)]; rfl
theorem rdn_el {α : Type} [Inhabited α] {l : List α} {i : Nat} (h : i < l.length) : rdn l i ∈ l := by
 have : rdn l i = l[i] := by simp [rdn, h]
 rw [this]; exact List.getElem_mem h
section
variable {n : Nat} {REC : Int → Int → PSt → List Int → List S11 → Option Bool} {v1 : Int} {v6 : List S10} {x9 x10 : Int} {a : List Int} {tr : List S11}
theorem l6_1_ok {v25 : S1 × Int × Bool × Int × PSt} (hl : tr.length ≤ 100) (ha : a.length = 16) {now : Int} (hnow : IntKind.i64.wrap (x9 + (if ((rd v6 x10).c4) > 0 then ((rd v6 x10).c4) else 0)) = now)
  (hy : ∀ y, y ∈ tr → (0 ≤ y.c0 ∧ y.c0 < 13) ∧ (now < y.c3 → (y.c0 = v25.1.c0 ∨ y.c1 = (rd v6 x10).c1) → rdn a y.c0.toNat ≠ 0)) : ∀ (f k : Nat), k ≤ tr.length → tr.length - k < f →
  l6_1 n REC v1 v6 x9 x10 a tr v25 f (k : Int) = REC now (IntKind.i64.wrap (x10 + 1)) v25.2.2.2.2 a (tr ++ [(⟨v25.1.c0, (rd v6 x10).c1, v25.2.1, IntKind.i64.wrap (now + (IntKind.i64.wrap (1 + v1)))⟩ : S11)]) := by
 intro f
 induction f with
 | zero => intro k _ hf; omega
 | succ f ih =>
  intro k hk hf
  rw [l6_1, hnow]
  by_cases c : k < tr.length
  ·obtain ⟨y1, y2⟩ := hy _ (rdn_el c)
   have next : l6_1 n REC v1 v6 x9 x10 a tr v25 f (IntKind.i64.wrap ((k : Int) + 1)) = REC now (IntKind.i64.wrap (x10 + 1)) v25.2.2.2.2 a (tr ++ [(⟨v25.1.c0, (rd v6 x10).c1, v25.2.1, IntKind.i64.wrap (now + (IntKind.i64.wrap (1 + v1)))⟩ : S11)]) := by
    rw [wsuc (by omega)]; exact ih (k + 1) (by omega) (by omega)
   rw [if_pos (by omega), if_pos (by omega), Int.toNat_natCast, if_pos c]
   by_cases d1 : now < (rdn tr k).c3
   ·rw [if_pos d1]
    by_cases d2 : (rdn tr k).c0 = v25.1.c0
    ·rw [if_pos d2, if_pos (by omega), if_pos (by omega), if_neg (y2 d1 (.inl d2))]; exact next
    ·rw [if_neg d2]
     by_cases d3 : (rdn tr k).c1 = (rd v6 x10).c1
     ·rw [if_pos d3, if_pos (by omega), if_pos (by omega), if_neg (y2 d1 (.inr d3))]; exact next
     ·rw [if_neg d3]; exact next
   ·rw [if_neg d1]; exact next
  ·rw [if_neg (by omega), if_pos (by omega)]
def noteD (w : Int) (y : S11) : S11 := if y.c1 = w then ⟨y.c0, y.c1, y.c2, 0⟩ else y
def updT (w : Int) (l : List S11) (k : Nat) : List S11 := (l.take k).map (noteD w) ++ l.drop k
theorem updT_len {w : Int} {l : List S11} {k : Nat} (h : k ≤ l.length) : (updT w l k).length = l.length := by simp [updT]; omega
theorem updT_at {w : Int} {l : List S11} {k : Nat} (h : k < l.length) : rdn (updT w l k) k = l[k] := by
 unfold rdn updT
 rw [List.getD_eq_getElem?_getD, List.getElem?_append_right (by simp; omega)]
 simp [Nat.min_eq_left (Nat.le_of_lt h), h]
theorem updT_next {w : Int} {l : List S11} {k : Nat} (h : k < l.length) : (updT w l k).set k (noteD w l[k]) = updT w l (k + 1) := by
 unfold updT
 rw [List.set_append, if_neg (by simp; omega), List.take_succ_eq_append_getElem h, List.map_append, List.append_assoc]
 congr 1
 rw [List.length_map, List.length_take, Nat.min_eq_left (Nat.le_of_lt h), Nat.sub_self, List.drop_eq_getElem_cons h]
 rfl
theorem updT_same {w : Int} {l : List S11} {k : Nat} (h : k < l.length) (e : noteD w l[k] = l[k]) : updT w l k = updT w l (k + 1) := by
 unfold updT
 rw [List.take_succ_eq_append_getElem h, List.map_append, List.append_assoc, List.drop_eq_getElem_cons h]
 simp [e]
theorem l6_3_ok {v87 : Int × PSt} (hl : tr.length ≤ 100) {now w : Int} (hw : (rd v6 x10).c1 = w) (hnow : IntKind.i64.wrap (x9 + (if ((rd v6 x10).c4) > 0 then ((rd v6 x10).c4) else 0)) = now) : ∀ (f k : Nat), k ≤ tr.length → tr.length - k < f →
  l6_3 n REC v6 x9 x10 a v87 f (k : Int) (updT w tr k) = REC now (IntKind.i64.wrap (x10 + 1)) v87.2 a (tr.map (noteD w)) := by
 intro f
 induction f with
 | zero => intro k _ hf; omega
 | succ f ih =>
  intro k hk hf
  rw [l6_3, hnow, updT_len hk, hw]
  by_cases c : k < tr.length
  ·rw [if_pos (by omega), if_pos (by omega), Int.toNat_natCast, if_pos c, updT_at c, wsuc (by omega)]
   by_cases d : tr[k].c1 = w
   ·rw [if_pos d]
    have e : (⟨tr[k].c0, tr[k].c1, tr[k].c2, 0⟩ : S11) = noteD w tr[k] := by unfold noteD; rw [if_pos d]
    rw [e, updT_next c]
    exact ih (k + 1) (by omega) (by omega)
   ·rw [if_neg d, updT_same c (by unfold noteD; rw [if_neg d])]
    exact ih (k + 1) (by omega) (by omega)
  ·have : k = tr.length := by omega
   subst this
   rw [if_neg (by omega)]
   simp [updT]
end
/-- the end: what was answered -/
theorem l6_5_ok {n : Nat} {lim tick : Int} {i : Nat} {s : PSt} {a : List Int} (h : ON lim tick i s a) (hi : i ≤ 100) {m : Int} (hm : m = (((pDone s).length : Nat) : Int)) : ∀ (f k : Nat), k ≤ (pDone s).length → (pDone s).length - k < f →
  l6_5 n a ((pDone s).map fun x => (⟨x.1, x.2.worker, x.2.try', x.2.body⟩ : S2)) m f (k : Int) = some true := by
 have hdl : (pDone s).length ≤ 100 := by
  unfold pDone; exact Nat.le_trans (List.length_filterMap_le _ _) (Nat.le_trans h.jl hi)
 intro f
 induction f with
 | zero => intro k _ hf; omega
 | succ f ih =>
  intro k hk hf
  rw [l6_5]
  rw [List.length_map]
  by_cases c : k < (pDone s).length
  ·have hr : rd ((pDone s).map fun x => (⟨x.1, x.2.worker, x.2.try', x.2.body⟩ : S2)) (k : Int) = ⟨(pDone s)[k].1, (pDone s)[k].2.worker, (pDone s)[k].2.try', (pDone s)[k].2.body⟩ := by
    simp [rd, c]
   have hmem : (pDone s)[k] ∈ pDone s := List.getElem_mem c
   generalize hd : (pDone s)[k] = d at *
   unfold pDone at hmem
   obtain ⟨j, hj, e⟩ := List.mem_filterMap.1 hmem
   have hids := h.ids j hj
   have ha16 := h.al16
   rcases h.rel j hj with ⟨q, _⟩ | ⟨r, hr1, hbd, hp, hq⟩
   ·rw [q] at e; cases e
   ·rw [hr1] at e
    obtain rfl := Option.some.inj e
    rw [if_pos (by omega), if_pos (by omega), hr]
    dsimp only
    rw [if_neg (by omega), if_neg (by omega), hbd, if_pos (by rfl), if_pos (by exact ⟨by omega, by simp⟩), if_pos (by omega), if_pos (by omega)]
    have e0 : rd ([rdn a j.id.toNat] : List Int) 0 = rdn a j.id.toNat := rfl
    rw [e0, wrap_i64 (by omega) (by omega), if_pos rfl, wsuc (by omega)]
    exact ih (k + 1) (by omega) (by omega)
  ·rw [if_neg (by omega), if_pos hm, lives_n]; rfl
theorem l6_4_ok {n : Nat} {a : List Int} {v : List S2} (ha : a.length = 16) : ∀ (f q m : Nat), q ≤ 16 → 16 - q < f → m ≤ q → l6_4 n a v f (m : Int) (q : Int) = l6_5 n a v (((m + ((List.range' q (16 - q)).filter fun z => decide (0 < rdn a z)).length : Nat)) : Int) n 0 := by
 intro f
 induction f with
 | zero => intro q m _ hf; omega
 | succ f ih =>
  intro q m hq hf hm
  rw [l6_4]
  by_cases c : q < 16
  ·rw [if_pos (by omega), if_pos (by omega), Int.toNat_natCast, if_pos (by omega)]
   have e : 16 - q = (16 - (q + 1)) + 1 := by omega
   rw [e, List.range'_succ, List.filter_cons, wsuc (by omega), wsuc (by omega)]
   by_cases d : 0 < rdn a q
   ·rw [if_pos d, if_pos (by simpa using d), ih (q + 1) (m + 1) (by omega) (by omega) (by omega), List.length_cons]
    congr 2; omega
   ·rw [if_neg d, if_neg (by simpa using d), ih (q + 1) m (by omega) (by omega) (by omega)]
  ·have : q = 16 := by omega
   subst this
   rw [if_neg (by omega)]; rfl
theorem count_ok {lim tick : Int} {i : Nat} {s : PSt} {a : List Int} (h : ON lim tick i s a) : ((List.range' 0 16).filter fun z => decide (0 < rdn a z)).length = (pDone s).length := by
 have h1 : (pDone s).length = ((s.jobs.filter fun j => j.ans.isSome).map fun j => j.id.toNat).length := by
  unfold pDone
  rw [List.length_map]
  generalize s.jobs = js
  induction js with
  | nil => rfl
  | cons j js ih =>
   obtain ⟨x, b, t, _ | r⟩ := j
   ·simpa using ih
   ·simpa using ih
 rw [h1]
 refine List.Perm.length_eq ((List.perm_ext_iff_of_nodup ?_ ?_).2 fun z => ?_)
 ·exact (List.nodup_range' (step := 1) (by omega)).filter _
 ·rw [List.Nodup, List.pairwise_map]
  have hs := h.sorted.filter (fun j => j.ans.isSome)
  refine (List.Pairwise.imp_of_mem ?_ hs)
  intro x y hx hy hxy
  have := h.ids x (List.mem_filter.1 hx).1
  have := h.ids y (List.mem_filter.1 hy).1
  omega
 ·rw [List.mem_filter, List.mem_map]
  constructor
  ·rintro ⟨hz, hp⟩
   have hz16 : z < 16 := by have := List.mem_range'_1.1 hz; omega
   have hp' : 0 < rdn a z := by simpa using hp
   by_cases he : ∃ j, j ∈ s.jobs ∧ j.id = (z : Int)
   ·obtain ⟨j, hj, e⟩ := he
    refine ⟨j, List.mem_filter.2 ⟨hj, ?_⟩, by omega⟩
    rcases h.rel j hj with ⟨_, q⟩ | ⟨r, q, _⟩
    ·rw [e, Int.toNat_natCast] at q; omega
    ·rw [q]; rfl
   ·have := h.free z hz16 fun j hj e => he ⟨j, hj, e⟩
    omega
  ·rintro ⟨j, hj, rfl⟩
   obtain ⟨hj1, hj2⟩ := List.mem_filter.1 hj
   have := h.ids j hj1
   refine ⟨List.mem_range'_1.2 (by omega), ?_⟩
   rcases h.rel j hj1 with ⟨q, _⟩ | ⟨r, _, _, q, _⟩
   ·rw [q] at hj2; cases hj2
   ·simpa using q
theorem l6_0_ok {n : Nat} (hn : 1000 < n) {v1 lim : Int} (hv : 0 ≤ v1 ∧ v1 < 9) (hlim : lim = 1 + v1) {v6 : List S10} (hops : v6.length ≤ 40) (ho : ∀ o, o ∈ v6 → OpOk o) : ∀ (f i : Nat) (tick : Int) (s : PSt) (a : List Int) (tr : List S11), ON lim tick i s a → TRs lim s tr → tr.length ≤ i → i ≤ v6.length → v6.length - i < f →
  l6_0 n v1 v6 f tick (i : Int) s a tr = some true := by
 intro f
 induction f with
 | zero => intro i tick s a tr _ _ _ _ hf; omega
 | succ f ih =>
  intro i tick s a tr h hT htl hi hf
  have ha16 := h.al16
  have htk := h.tk
  rw [l6_0]
  by_cases c : i < v6.length
  ·have hoi : OpOk (rd v6 (i : Int)) := by
    have : rd v6 (i : Int) = v6[i] := by simp [rd, c]
    rw [this]; exact ho _ (List.getElem_mem c)
   have hnow : IntKind.i64.wrap (tick + (if ((rd v6 (i : Int)).c4) > 0 then ((rd v6 (i : Int)).c4) else 0)) = tick + (if ((rd v6 (i : Int)).c4) > 0 then ((rd v6 (i : Int)).c4) else 0) := by
    have := hoi.k4
    refine wrap_i64 ?_ ?_ <;> split <;> omega
   have hn1 : tick ≤ tick + (if ((rd v6 (i : Int)).c4) > 0 then ((rd v6 (i : Int)).c4) else 0) := by split <;> omega
   have hn2 : tick + (if ((rd v6 (i : Int)).c4) > 0 then ((rd v6 (i : Int)).c4) else 0) ≤ tick + 3 := by have := hoi.k4; split <;> omega
   generalize hnw : tick + (if ((rd v6 (i : Int)).c4) > 0 then ((rd v6 (i : Int)).c4) else 0) = now at hn1 hn2
   rw [hnw] at hnow
   have hw1 : IntKind.i64.wrap ((i : Int) + 1) = ((i + 1 : Nat) : Int) := wsuc (by omega)
   rw [if_pos (by omega), if_pos (by omega)]
   try rw [hnw]
   rw [hnow]
   by_cases c0 : (rd v6 (i : Int)).c0 = 0
   ·rw [if_pos c0, hw1]
    unfold g12
    rw [Option.bind_some]
    obtain ⟨k1, k2⟩ := on_add h (by omega) (N := (rd v6 (i : Int)).c2) (by have := hoi.k2; omega)
    exact ih (i + 1) tick _ a tr k1 (fun y hy => k2 (hT y hy)) (by omega) (by omega) (by omega)
   ·rw [if_neg c0]
    by_cases c1 : (rd v6 (i : Int)).c0 = 1
    ·rw [if_pos c1]
     obtain ⟨x, e, hx⟩ := on_ask h (by omega) hn1 hn2 (rd v6 (i : Int)).c1
     unfold g14
     rw [e, Option.map_some, Option.bind_some]
     dsimp only
     rcases hx with ⟨x1, x2, x3⟩ | ⟨x1, x2, x3⟩ | ⟨x1, x2, x3, x4, j, hj, j1, j2, j3, j4, j5⟩
     ·rw [if_neg x2, if_neg (by rw [x1]; simp), hw1, x3]
      exact ih (i + 1) tick s a tr h.next hT (by omega) (by omega) (by omega)
     ·rw [if_pos x2, if_neg (by rw [x1]; simp), hw1, x3]
      exact ih (i + 1) now _ a tr (h.tickTo hn1 hn2) hT (by omega) (by omega) (by omega)
     ·have hids := h.ids j hj
      have hz : rdn a j.id.toNat = 0 := by
       rcases h.rel j hj with ⟨_, q⟩ | ⟨r, q, _⟩
       ·exact q
       ·rw [j2] at q; cases q
      rw [if_pos x2, if_pos x1, ← j1, if_neg (by omega), if_neg (by omega), if_pos (by omega), if_pos (by omega), if_neg (by omega)]
      have hloop := l6_1_ok (n := n) (REC := l6_0 n v1 v6 f) (v1 := v1) (v6 := v6) (x9 := tick) (x10 := (i : Int)) (a := a) (tr := tr) (v25 := ((⟨j.id, x.1.2⟩ : S1), x.2)) (by omega) ha16 (now := now) (by rw [hnw, hnow]) (fun y hy => by
       have hty := hT y hy
       obtain ⟨q1, q2, k, hk, ek, _⟩ := hty
       have hidk := h.ids k hk
       refine ⟨by omega, fun hlt hor hzero => ?_⟩
       obtain ⟨k', hk', ek', hr1, hr2⟩ := (hT y hy).run h (by omega) hn1 hn2 hlt hzero
       rcases hor with e1 | e1
       ·have : k' = j := job_uniq h.sorted hk' hj (by rw [ek']; exact e1)
        subst this
        rw [j3] at hr1; cases hr1
       ·rw [List.any_eq_false] at x4
        have := x4 k' hk'
        rw [e1] at hr2
        exact this hr2) n 0 (by omega) (by omega)
      rw [show (0 : Int) = ((0 : Nat) : Int) from rfl, hloop, hw1]
      dsimp only
      have hwl : IntKind.i64.wrap (now + IntKind.i64.wrap (1 + v1)) = now + lim := by
       rw [wrap_i64 (x := 1 + v1) (by omega) (by omega), wrap_i64 (by omega) (by omega)]; omega
      rw [hwl, j5]
      have htlj := h.tl j hj
      refine ih (i + 1) now _ a _ (h.upd hn1 hn2 ha16 (fun _ => rfl) (fun _ _ => rfl) ⟨j, hj, rfl⟩ (fun k hk ek => ?_) (fun k hk ek => ?_)) (fun y hy => ?_) (by simp; omega) (by omega) (by omega)
      ·exact h.rel k hk
      ·have := h.tl k hk
       refine ⟨fun t ht => ?_, by simp; omega⟩
       rcases List.mem_append.1 ht with ht | ht
       ·have := h.tt k hk t ht; omega
       ·rw [List.mem_singleton.1 ht]; simp only; omega
      ·rcases List.mem_append.1 hy with hy | hy
       ·exact (hT y hy).upd (fun _ => rfl) (fun k q t hq => by rw [List.getElem?_append_left (List.getElem?_eq_some_iff.1 hq).1]; exact hq)
       ·rw [List.mem_singleton.1 hy]
        refine ⟨x3, by rw [j4]; exact Int.natCast_nonneg _, _, mem_upd.2 ⟨j, hj, if_pos rfl⟩, rfl, ⟨(rd v6 (i : Int)).c1, now, false⟩, ?_, rfl, ?_⟩
        ·dsimp only
         rw [j4, Int.toNat_natCast]; simp
        ·simp
    ·rw [if_neg c1]
     by_cases c3 : (rd v6 (i : Int)).c0 = 3
     ·rw [if_pos c3]
      unfold g24
      rw [Option.bind_some]
      rcases on_die h (by omega) hn1 hn2 (rd v6 (i : Int)).c1 with ⟨d1, d2⟩ | ⟨d1, d2, d3⟩
      ·rw [if_neg d1, hw1, d2]
       exact ih (i + 1) tick s a tr h.next hT (by omega) (by omega) (by omega)
      ·rw [if_pos d1]
       have hloop := l6_3_ok (n := n) (REC := l6_0 n v1 v6 f) (v6 := v6) (x9 := tick) (x10 := (i : Int)) (a := a) (tr := tr) (v87 := pDie s (rd v6 (i : Int)).c1 now) (by omega) (now := now) (w := (rd v6 (i : Int)).c1) rfl (by rw [hnw, hnow]) n 0 (by omega) (by omega)
       have h00 : updT (rd v6 (i : Int)).c1 tr 0 = tr := by simp [updT]
       rw [h00] at hloop
       rw [show (0 : Int) = ((0 : Nat) : Int) from rfl, hloop, hw1]
       refine ih (i + 1) now _ a _ d2 (fun y hy => ?_) (by simp; omega) (by omega) (by omega)
       obtain ⟨z, hz, rfl⟩ := List.mem_map.1 hy
       have := d3 (hT z hz)
       unfold noteD
       by_cases e : z.c1 = (rd v6 (i : Int)).c1
       ·rw [if_pos e] at this ⊢; exact this
       ·rw [if_neg e] at this ⊢; exact this
     ·rw [if_neg c3]
      by_cases c4 : (rd v6 (i : Int)).c0 = 4
      ·rw [if_pos c4, hw1]
       unfold g26
       rw [Option.bind_some]
       obtain ⟨k1, k2⟩ := on_rev h (rd v6 (i : Int)).c1
       exact ih (i + 1) tick _ a tr k1 (fun y hy => k2 (hT y hy)) (by omega) (by omega) (by omega)
      ·rw [if_neg c4]
       by_cases c5 : (tr.length : Int) = 0
       ·rw [if_pos c5, hw1]
        exact ih (i + 1) tick s a tr h.next hT (by omega) (by omega) (by omega)
       ·have hN : 0 ≤ (rd v6 (i : Int)).c2 := by have := hoi.k2; omega
        have q0 : 0 ≤ Int.tmod (rd v6 (i : Int)).c2 (tr.length : Int) := Int.tmod_nonneg _ hN
        have q1 := Int.tmod_lt_of_pos (rd v6 (i : Int)).c2 (show (0 : Int) < (tr.length : Int) by omega)
        rw [if_neg c5, if_pos c5, if_pos ⟨q0, q1⟩, if_pos (by omega)]
        generalize hq : (Int.tmod (rd v6 (i : Int)).c2 (tr.length : Int)).toNat = q
        have hql : q < tr.length := by omega
        have hty := hT _ (rdn_el hql)
        generalize hy : rdn tr q = y at *
        have hb : IntKind.u8.wrap (IntKind.i64.wrap ((i : Int) + 1)) = ((i + 1 : Nat) : Int) := by rw [hw1, wrap_u8 (by omega) (by omega)]
        rw [hb]
        obtain ⟨r1, r2, r3, r4⟩ := on_ans h (by omega) hn1 hn2 hty (b := ((i + 1 : Nat) : Int)) (by omega)
        unfold g15
        rw [Option.bind_some]
        dsimp only
        rw [if_pos r1, if_pos (by omega), if_pos (by omega)]
        rcases r3 with ⟨z1, z2, z3⟩ | ⟨z1, z2, z3⟩
        ·rw [z2, decide_eq_true z1, if_pos (by rfl), if_pos rfl, hw1]
         exact ih (i + 1) now _ _ tr z3 (fun y hy => r4 (hT y hy)) (by omega) (by omega) (by omega)
        ·rw [z2, decide_eq_false z1, if_pos (by rfl), if_neg (by simp), hw1]
         exact ih (i + 1) now _ a tr z3 (fun y hy => r4 (hT y hy)) (by omega) (by omega) (by omega)
  ·rw [if_neg (by omega)]
   unfold g28
   rw [Option.bind_some]
   have e4 := l6_4_ok (n := n) (a := a) (v := (pDone s).map fun x => (⟨x.1, x.2.worker, x.2.try', x.2.body⟩ : S2)) ha16 n 0 0 (by omega) (by omega) (by omega)
   rw [show ((0 : Nat) : Int) = 0 from rfl, Nat.sub_zero, Nat.zero_add, count_ok h] at e4
   rw [e4]
   have hdl : (pDone s).length ≤ 100 := by
    unfold pDone; exact Nat.le_trans (List.length_filterMap_le _ _) (Nat.le_trans h.jl (by omega))
   exact l6_5_ok h (by omega) rfl n 0 (by omega) (by omega)
theorem purePOnce (a0 : List Int) (a1 : Int) (h0 : ∀ n, n ∈ a0 → isI64 n) (h1 : isI64 a1) : ∃ n, g6 n a0 a1 = some true := by
 refine ⟨200000, ?_⟩
 unfold g6
 obtain ⟨u, e2, u1⟩ := g11_rng' 200000 a1 9 h1 (by omega)
 have q1 : pNew 4 (1 + u) = (some ⟨List.replicate (Int.toNat 4) true, 1 + u, 0, []⟩, 0) := by unfold pNew maxI; rw [if_neg (by omega)]
 obtain ⟨ops, e3, o1, o2⟩ := g18_ok (n := 200000) (N := 40) (by omega) h0 (by omega)
 rw [e2, Option.bind_some, wrap_i64 (x := 1 + u) (by omega) (by omega)]
 unfold g10
 rw [q1, Option.bind_some, if_neg (by simp), if_pos rfl, show (40 : Int) = ((40 : Nat) : Int) from rfl, e3, Option.bind_some]
 refine l6_0_ok (lim := 1 + u) (by omega) u1 rfl o1 o2 200000 0 0 _ _ [] ?_ (fun y hy => by cases hy) (by simp) (by omega) (by omega)
 refine ⟨rfl, rfl, by omega, ⟨rfl, by omega, by omega⟩, .nil, fun j hj => (by cases hj), by rfl, fun j hj => (by cases hj), fun q hq _ => ?_, fun j hj => (by cases hj), fun j hj => (by cases hj), by simp⟩
 show (List.replicate 16 (0 : Int)).getD q default = 0
 rw [List.getD_eq_getElem?_getD, List.getElem?_replicate]; split <;> rfl
end Go.Av
end
