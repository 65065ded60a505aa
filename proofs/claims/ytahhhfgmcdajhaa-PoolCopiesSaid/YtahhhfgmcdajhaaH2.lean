/- walks by hand, part 2 -/
import Derived.Test.YtahhhfgmcdajhaaH1
set_option autoImplicit false
set_option linter.unusedSimpArgs false
set_option linter.unusedVariables false
set_option linter.unnecessarySimpa false
section
set_option linter.unusedSimpArgs false
set_option linter.unusedVariables false
set_option linter.unnecessarySimpa false
set_option maxHeartbeats 8000000
set_option maxRecDepth 10000
namespace Go.Av
open Go.RowKit Go.Proofs
def gIns (g : JG) (j : PJob) : List JG → List PJob → List JG
 | b :: gs, a :: l => if j.id < a.id then g :: b :: gs else b :: gIns g j gs l
 | _, _ => [g]
theorem zip_ins {α : Type} (f : JG → PJob → α) (g : JG) (j : PJob) : ∀ (gs : List JG) (js : List PJob), gs.length = js.length → (List.zipWith f (gIns g j gs js) (pIns j js)).Perm (f g j :: List.zipWith f gs js)
 | [], [], _ => .refl _
 | b :: gs, a :: l, h => by
  have ih := zip_ins f g j gs l (by simpa using h)
  simp only [gIns, pIns]
  split
  ·exact .refl _
  ·simp only [List.zipWith_cons_cons]
   exact (ih.cons _).trans (.swap ..)
theorem gIns_len (g : JG) (j : PJob) : ∀ (gs : List JG) (js : List PJob), gs.length = js.length → (gIns g j gs js).length = gs.length + 1
 | [], [], _ => rfl
 | b :: gs, a :: l, h => by
  have ih := gIns_len g j gs l (by simpa using h)
  simp only [gIns]
  split <;> simp [ih]
theorem pIns_len (j : PJob) : ∀ (js : List PJob), (pIns j js).length = js.length + 1
 | [] => rfl
 | a :: l => by
  have ih := pIns_len j l
  simp only [pIns]
  split <;> simp [ih]
theorem mem_pIns {j x : PJob} : ∀ {js : List PJob}, x ∈ pIns j js ↔ x = j ∨ x ∈ js
 | [] => by simp [pIns]
 | a :: l => by
  have ih := mem_pIns (j := j) (x := x) (js := l)
  simp only [pIns]
  split
  ·simp
  ·simp only [List.mem_cons, ih]
   constructor <;> (intro h; rcases h with h | h | h <;> simp [h])
theorem pIns_sorted {j : PJob} : ∀ {js : List PJob}, js.Pairwise (fun a b => a.id < b.id) → (∀ x, x ∈ js → x.id ≠ j.id) → (pIns j js).Pairwise (fun a b => a.id < b.id)
 | [], _, _ => by simp [pIns]
 | a :: l, h, hn => by
  have h1 := List.pairwise_cons.1 h
  have ih := pIns_sorted (j := j) h1.2 (fun x hx => hn x (by simp [hx]))
  simp only [pIns]
  split
  ·rename_i hlt
   refine List.pairwise_cons.2 ⟨fun x hx => ?_, h⟩
   rcases List.mem_cons.1 hx with rfl | hx
   ·exact hlt
   ·have := h1.1 x hx; omega
  ·rename_i hlt
   refine List.pairwise_cons.2 ⟨fun x hx => ?_, ih⟩
   rcases mem_pIns.1 hx with rfl | hx
   ·have := hn a (by simp); omega
   ·exact h1.1 x hx
theorem jobs_ins {gs : List JG} {js : List PJob} (h : gs.length = js.length) (g : JG) (j : PJob) : (jobL g j ++ jobsL gs js).Perm (jobsL (gIns g j gs js) (pIns j js)) :=
 ((zip_ins jobL g j gs js h).flatten).symm
theorem putM_new {ms : List MA} {key : List Int} {v : AV} (h : lkA ms key = none) : putM ms key v = ms ++ [(key, v)] := by
 unfold lkA at h
 have h' : ms.find? (fun e => e.1 == key) = none := by
  cases hf : ms.find? (fun e => e.1 == key) with
  | none => rfl
  | some e => rw [hf] at h; cases h
 have : ms.findIdx? (fun e => e.1 == key) = none := by
  rw [List.findIdx?_eq_none_iff]; intro x hx; have := List.find?_eq_none.1 h' x hx; simpa using this
 unfold putM
 rw [this]
theorem PInv.ins {g : PG} {s : PSt} (hI : PInv g s) {g' : JG} {j' : PJob} (hn : ∀ x, x ∈ s.jobs → x.id ≠ j'.id) (hb : j'.body.length ≤ 65536 ∧ ∀ r, j'.ans = some r → r.body.length ≤ 65536) (ht : j'.tries.length ≤ 5864062014805) (hc : s.jobs.length < 1024) {m : Nat} {av : AV} {al : List Bool} {tk : Int} :
  PInv ⟨m, av, gIns g' j' g.js s.jobs, g.ms ++ [keyE g' j']⟩ ⟨al, s.timeout, tk, pIns j' s.jobs⟩ := by
 refine ⟨by simp only [gIns_len _ _ _ _ hI.len, pIns_len, hI.len], ?_, pIns_sorted hI.sorted hn, fun j hj => ?_, fun j hj => ?_, by simp only [pIns_len]; omega⟩
 ·refine (List.perm_append_comm (l₁ := g.ms)).trans ?_
  exact (hI.perm.cons _).trans (zip_ins keyE g' j' g.js s.jobs hI.len).symm
 ·rcases mem_pIns.1 hj with rfl | hj
  ·exact hb
  ·exact hI.body j hj
 ·rcases mem_pIns.1 hj with rfl | hj
  ·exact ht
  ·exact hI.tries j hj
theorem pool_ins {H : AHeap} {p : Nat} {g : PG} {s : PSt} {L : List Item} (hI : PInv g s) {g' : JG} {j' : PJob} (hn : ∀ x, x ∈ s.jobs → x.id ≠ j'.id) (hb : j'.body.length ≤ 65536 ∧ ∀ r, j'.ans = some r → r.body.length ≤ 65536) (ht : j'.tries.length ≤ 5864062014805) (hc : s.jobs.length < 1024) (e3 : lkA g.ms [j'.id] = none) {av : AV} {al : List Bool} {tk : Int}
  (h : Hv H (jobL g' j' ++ ([.obj p (.cells [av, .int .i64 s.timeout, .int .i64 tk, .map (some g.m)]), .own 1 av (List.map AV.bool al), mpI g.m .i (putM g.ms [j'.id] (.ptr g'.jid 0))] ++ (jobsL g.js s.jobs ++ L)))) :
  Hv H (poolI p ⟨g.m, av, gIns g' j' g.js s.jobs, g.ms ++ [keyE g' j']⟩ ⟨al, s.timeout, tk, pIns j' s.jobs⟩ :: L) := by
 rw [putM_new e3] at h
 have h3 := (jobs_ins hI.len g' j').append_right L
 rw [List.append_assoc] at h3
 exact Hv.cls (A := poolL p ⟨g.m, av, gIns g' j' g.js s.jobs, g.ms ++ [keyE g' j']⟩ ⟨al, s.timeout, tk, pIns j' s.jobs⟩) (hI.ins hn hb ht hc) (h.perm (perm_mid.trans (h3.append_left _)))
theorem Keeps.ins {g g' : PG} {s s' : PSt} {G : JG} {J : PJob} (h : g.js.length = s.jobs.length) (e1 : g'.js = gIns G J g.js s.jobs) (e2 : s'.jobs = pIns J s.jobs) : Keeps g s g' s' := fun a b r q => by
 rw [e1, e2]
 exact (zip_ins (fun (g : JG) (j : PJob) => (g.rid, j.id, j.ans)) G J g.js s.jobs h).mem_iff.2 (List.mem_cons_of_mem _ q)
section
variable {B : Nat} {w0 : World} {n : Nat} {H : AHeap} {L : List Item} {K : AV → AHeap → Prop}

theorem c12k {a0 : PSt} {a1 : S1} {gha0 : PG} {pa0 : Nat} {r : Int × PSt} (hS : Hv H (poolI pa0 gha0 a0 :: L)) (hg : g12 n a0 a1 = some r) (hK : ∀ (g : PG) (H' : AHeap), Keeps gha0 a0 g r.2 → Hv H' (poolI pa0 g r.2 :: L) → K (.int .i64 r.1) H') :
  ACall Try.prog B w0 12 [.ptr pa0 0, .agg [.int .i64 a1.c0, .dl 1 (List.map (AV.int .u8) a1.c1) .none]] H K := by
 obtain rfl := Option.some.inj hg
 refine ACall.ret ?_
 obtain ⟨hI, hS⟩ := hS.opn
 simp only [poolL, List.cons_append] at hS
 refine ACall.enterK Try.f12 Try.func12 (by kernel_rfl) rfl (eawp_sound noY_sound _ _ _ _ ?_)
 have hF := True.intro
 have F := hS.facts
 have h0 := True.intro
 repeat' (first | ((with_reducible refine atEany ?_); first | refine pSeq rfl ?_ | refine pBlk rfl ?_ | refine pLoop rfl ?_ | refine pRange rfl ?_ | refine pDraw rfl ?_) | ((first
  | (clear h0)
  | ((with_reducible refine atGBr ?_); (refine Br.go2 (fun h => ?_) (fun h => ?_)) <;> replace hF := And.intro h hF)
  | ((with_reducible refine atGbr ?_); (refine branch_go2 (fun h => ?_) (fun h => ?_)) <;> replace hF := And.intro h hF)
  | ((with_reducible refine atEany ?_); first | refine pReg rfl ?_ | refine pCond rfl ?_ | refine pRet rfl ?_ | refine pExit rfl ?_ | refine pSkip rfl ?_)
  | ((with_reducible refine atBox2 3 ?_); refine box_go rfl hS ?_; intro o4 H hS; simp only [AV.cells] at hS)
  | ((with_reducible refine atLen ?_); refine len_mp tyM88 rfl (by (repeat first | exact pH | apply pT); fail_if_success refine ?_) hS ?_; have hml := hI.perm.length_eq; rw [keys_len hI.len] at hml; rw [hml])
  | (refine look_mp (kk := .i) (key := [a1.c0]) mt88 (by (repeat first | exact pH | apply pT); fail_if_success refine ?_) hS rfl ?_; rcases hI.look a1.c0 with ⟨i, h1, h2, e1, e2, e3⟩ | ⟨e2, e3, e4⟩ <;> rw [e3])
  | ((with_reducible refine atF 46 ?_); refine c46 (n := 0) hS (by simp only [g46]; exact if_pos (by simp at hF ⊢; omega)) ?_; intro tc H hS)
  | ((with_reducible refine atBox2 43 ?_); refine box_go rfl hS ?_; intro o5 H hS; simp only [AV.cells] at hS)
  | ((with_reducible refine atSto 28 ?_); refine sto_go ty28 (by (repeat first | exact pH | apply pT); fail_if_success refine ?_) hS (by rfl) (by rfl) (by exact Nat.le_of_ble_eq_true rfl) ?_; intro H hS; simp only [putA_nil, putA_0, putA_s, List.cons_append, List.nil_append, AV.cells, List.length_cons, List.length_nil, List.drop_succ_cons, List.drop_zero, Nat.reduceAdd] at hS)
  | ((with_reducible refine atSto 93 ?_); refine sto_go ty93 (by (repeat first | exact pH | apply pT); fail_if_success refine ?_) hS (by rfl) (by rfl) (by exact Nat.le_of_ble_eq_true rfl) ?_; intro H hS; simp only [putA_nil, putA_0, putA_s, List.cons_append, List.nil_append, AV.cells, List.length_cons, List.length_nil, List.drop_succ_cons, List.drop_zero, Nat.reduceAdd] at hS)
  | (refine upd_mp (kk := .i) (key := [a1.c0]) mt88 (by (repeat first | exact pH | apply pT); fail_if_success refine ?_) hS rfl ?_; intro H hS)
  | ((with_reducible refine atDraw 5 ?_); refine AWP.draw noY_sound [[], [0], [0, 1], [0, 1, 2], [], [4], [0, 1, 2, 3, 4, 5], [0, 1, 2, 3, 4, 5, 6], [0, 1, 2, 3, 4, 5, 6, 7]] [⟨0, false, []⟩, ⟨1, false, []⟩, ⟨2, false, []⟩, ⟨3, false, []⟩, ⟨4, false, []⟩, ⟨5, false, []⟩, ⟨6, true, []⟩, ⟨7, false, []⟩, ⟨8, false, []⟩] [0, 1, 2, 3, 4, 5, 6, 7, 8] [0, 1, 2, 3, 4, 5, 6, 7, 8] (by kernel_rfl) ?_)
  | ((with_reducible refine atDraw 8 ?_); refine AWP.draw noY_sound [[], [0], [0, 1], [0, 1, 2], [], [4], [], [6], [6, 7], [0, 1, 2, 3, 4, 5, 6, 7, 8]] [⟨0, false, []⟩, ⟨1, false, []⟩, ⟨2, false, []⟩, ⟨3, false, []⟩, ⟨4, false, []⟩, ⟨5, false, []⟩, ⟨6, false, []⟩, ⟨7, false, []⟩, ⟨8, true, [3, 5]⟩, ⟨9, true, []⟩] [0, 1, 2, 3, 4, 5, 6, 7, 8, 9] [0, 1, 2, 3, 4, 5, 6, 7, 8, 9] (by kernel_rfl) ?_)) <;> (replace F := hS.facts; (try simp only [Facts_obj, Facts_tl, Facts_own, Facts_pool, Facts_mp] at F); try simp only [EVA, reduceIte, reduceCtorEq, Nat.reduceEqDiff, Nat.reduceLT, Nat.reduceLeDiff, Int.reduceEq, Int.reduceLT, Int.reduceLE, Nat.reduceMul, Int.reduceToNat, Nat.reduceAdd, Int.reduceAdd, Int.reduceSub, Int.reduceMul, Int.reduceNeg, Try.ntmps12, (show Try.f12.results.toList = [.tmp 4] from rfl), (show IntKind.i64.wrap 1 = 1 from rfl), (show IntKind.i64.wrap (-1) = -1 from rfl), eop_lookup, eop_mapUpdate, eop_range, eop_next, eop_entry, eop_makeMap, Option.getD_some, Option.getD_none, okV_f, okV_t, hF, F])))
 ·refine RetK.here ?_
  have e : pAdd a0 a1.c0 a1.c1 = (1, a0) := by simp only [pAdd, lt_cast, le_cast, hF, not_true_eq_false, not_false_eq_true, if_false, if_true, reduceIte, false_or, or_false, true_or, or_true]
  rw [e] at hK
  exact hK gha0 H (.same rfl) (Hv.cls (A := poolL pa0 gha0 a0) hI hS.drop)
 ·refine RetK.here ?_
  have e : pAdd a0 a1.c0 a1.c1 = (4, a0) := by simp only [pAdd, lt_cast, le_cast, hF, not_true_eq_false, not_false_eq_true, if_false, if_true, reduceIte, false_or, or_false, true_or, or_true]
  rw [e] at hK
  exact hK gha0 H (.same rfl) (Hv.cls (A := poolL pa0 gha0 a0) hI hS.drop)
 ·refine RetK.here ?_
  have e : pAdd a0 a1.c0 a1.c1 = (4, a0) := by simp only [pAdd, lt_cast, le_cast, hF, not_true_eq_false, not_false_eq_true, if_false, if_true, reduceIte, false_or, or_false, true_or, or_true]
  rw [e] at hK
  exact hK gha0 H (.same rfl) (Hv.cls (A := poolL pa0 gha0 a0) hI hS.drop)
 ·refine RetK.here ?_
  have e : pAdd a0 a1.c0 a1.c1 = (8, a0) := by simp only [pAdd, lt_cast, le_cast, e2, hF, not_true_eq_false, not_false_eq_true, if_false, if_true, reduceIte, false_or, or_false, true_or, or_true]
  rw [e] at hK
  exact hK gha0 H (.same rfl) (Hv.cls (A := poolL pa0 gha0 a0) hI hS.drop)
 ·refine RetK.go (N := jobL ⟨o5, .dl 0 [] .full, 0⟩ ⟨a1.c0, a1.c1, [], none⟩ ++ ([.obj pa0 (.cells [gha0.av, .int .i64 a0.timeout, .int .i64 a0.tick, .map (some gha0.m)]), .own 1 gha0.av (List.map AV.bool a0.alive), mpI gha0.m .i (putM gha0.ms [a1.c0] (.ptr o5 0))] ++ (jobsL gha0.js a0.jobs ++ L))) (v' := .int .i64 0) (fun H' hS => ?_) rR hS (by simp only [jobL, jobC, ansV, ansI, List.cons_append, List.nil_append]; (repeat first | exact nD | (apply nT; (· (repeat first | exact pH | apply pT))) | (apply nW; (· (repeat first | exact pH | apply pT)); (· (repeat first | exact kZ | apply kR | apply kF | apply kN | apply kE | apply kI | apply kI2 | apply kI3 | apply kT | apply kU))) | (apply nV; (· assumption); (· (repeat first | exact pH | apply pT)); (· first | exact flT _ | exact (by simp))) | (apply nO; (· (repeat first | exact pH | apply pT)); (· first | exact flT _ | exact (by simp))) | apply nF | apply nE | apply nX))
  have hq := pool_ins hI (g' := ⟨o5, .dl 0 [] .full, 0⟩) (j' := ⟨a1.c0, a1.c1, [], none⟩) e4 ⟨by show a1.c1.length ≤ 65536; simp at hF; omega, fun r e => by cases e⟩ (Nat.zero_le _) (by simp at hF; omega) e3 hS
  have e : pAdd a0 a1.c0 a1.c1 = (0, { a0 with jobs := pIns ⟨a1.c0, a1.c1, [], none⟩ a0.jobs }) := by simp only [pAdd, lt_cast, le_cast, e2, hF, not_true_eq_false, not_false_eq_true, if_false, if_true, reduceIte, false_or, or_false, true_or, or_true]
  rw [e] at hK
  refine hK _ H' ?_ hq
  exact Keeps.ins hI.len rfl rfl
theorem c12 {a0 : PSt} {a1 : S1} {gha0 : PG} {pa0 : Nat} {r : Int × PSt} (hS : Hv H (poolI pa0 gha0 a0 :: L)) (hg : g12 n a0 a1 = some r) (hK : ∀ (g : PG) (H' : AHeap), Hv H' (poolI pa0 g r.2 :: L) → K (.int .i64 r.1) H') :
  ACall Try.prog B w0 12 [.ptr pa0 0, .agg [.int .i64 a1.c0, .dl 1 (List.map (AV.int .u8) a1.c1) .none]] H K := c12k hS hg fun g H' _ h => hK g H' h
end
end Go.Av
end

section
set_option linter.unusedSimpArgs false
set_option linter.unusedVariables false
set_option linter.unnecessarySimpa false
set_option maxHeartbeats 8000000
set_option maxRecDepth 10000
namespace Go.Proofs
open Go.Shelf
def Try.lays189_ren : Go.Shelf.Ren := ⟨fun | 189 => 94 | 125 => 106 | 257 => 105 | 128 => 118 | 129 => 119 | 294 => 109 | 295 => 110 | 296 => 111 | 297 => 112 | 298 => 113 | 299 => 114 | 216 => 115 | 300 => 116 | 301 => 117 | 328 => 120 | 329 => 121 | 330 => 122 | 331 => 123 | 332 => 124 | 215 => 125 | 343 => 126 | n => n, fun | 28 => 31 | 3 => 3 | 46 => 143 | 0 => 0 | 51 => 161 | 53 => 118 | 4 => 4 | 183 => 177 | 182 => 176 | 131 => 180 | 5 => 5 | 9 => 9 | 218 => 183 | 222 => 186 | 228 => 188 | 229 => 189 | n => n, fun | n => n⟩
theorem Try.lays189 : Go.Proofs.Lays.n189 Try.prog Try.lays189_ren := {
 mixed := by kernel_rfl
 f125 := Try.func106.trans (congrArg some (by kernel_rfl))
 f128 := Try.func118.trans (congrArg some (by kernel_rfl))
 f129 := Try.func119.trans (congrArg some (by kernel_rfl))
 f189 := Try.func94.trans (congrArg some (by kernel_rfl))
 f215 := Try.func125.trans (congrArg some (by kernel_rfl))
 f216 := Try.func115.trans (congrArg some (by kernel_rfl))
 f257 := Try.func105.trans (congrArg some (by kernel_rfl))
 f294 := Try.func109.trans (congrArg some (by kernel_rfl))
 f295 := Try.func110.trans (congrArg some (by kernel_rfl))
 f296 := Try.func111.trans (congrArg some (by kernel_rfl))
 f297 := Try.func112.trans (congrArg some (by kernel_rfl))
 f298 := Try.func113.trans (congrArg some (by kernel_rfl))
 f299 := Try.func114.trans (congrArg some (by kernel_rfl))
 f300 := Try.func116.trans (congrArg some (by kernel_rfl))
 f301 := Try.func117.trans (congrArg some (by kernel_rfl))
 f328 := Try.func120.trans (congrArg some (by kernel_rfl))
 f329 := Try.func121.trans (congrArg some (by kernel_rfl))
 f330 := Try.func122.trans (congrArg some (by kernel_rfl))
 f331 := Try.func123.trans (congrArg some (by kernel_rfl))
 f332 := Try.func124.trans (congrArg some (by kernel_rfl))
 f343 := Try.func126.trans (congrArg some (by kernel_rfl))
 t0 := Try.underlying0
 a0 := Try.isAgg0
 z0 := Try.sizeOf0
 v0 := Try.zeroValue0
 t3 := Try.underlying3
 a3 := Try.isAgg3
 z3 := Try.sizeOf3
 v3 := Try.zeroValue3
 t4 := Try.underlying4
 a4 := Try.isAgg4
 z4 := Try.sizeOf4
 v4 := Try.zeroValue4
 t5 := Try.underlying5
 a5 := Try.isAgg5
 z5 := Try.sizeOf5
 v5 := Try.zeroValue5
 t9 := Try.underlying9
 a9 := Try.isAgg9
 z9 := Try.sizeOf9
 v9 := Try.zeroValue9
 t28 := Try.underlying31
 a28 := Try.isAgg31
 z28 := Try.sizeOf31
 v28 := Try.zeroValue31
 t46 := Try.underlying143
 a46 := Try.isAgg143
 z46 := Try.sizeOf143
 v46 := Try.zeroValue143
 t51 := Try.underlying161
 a51 := Try.isAgg161
 z51 := Try.sizeOf161
 v51 := Try.zeroValue161
 t53 := Try.underlying118
 a53 := Try.isAgg118
 z53 := Try.sizeOf118
 v53 := Try.zeroValue118
 t131 := Try.underlying180
 a131 := Try.isAgg180
 z131 := Try.sizeOf180
 v131 := Try.zeroValue180
 t182 := Try.underlying176
 a182 := Try.isAgg176
 z182 := Try.sizeOf176
 v182 := Try.zeroValue176
 t183 := Try.underlying177
 a183 := Try.isAgg177
 z183 := Try.sizeOf177
 v183 := Try.zeroValue177
 t218 := Try.underlying183
 a218 := Try.isAgg183
 z218 := Try.sizeOf183
 v218 := Try.zeroValue183
 t222 := Try.underlying186
 a222 := Try.isAgg186
 z222 := Try.sizeOf186
 v222 := Try.zeroValue186
 t228 := Try.underlying188
 a228 := Try.isAgg188
 z228 := Try.sizeOf188
 v228 := Try.zeroValue188
 t229 := Try.underlying189
 a229 := Try.isAgg189
 z229 := Try.sizeOf189
 v229 := Try.zeroValue189 }
end Go.Proofs

namespace Go.Av
open Go.RowKit Go.Proofs
theorem Facts_rg (H : AHeap) (id it : Nat) (kk : KK) (ms : List MA) (se : List Nat) (l : List Item) : Facts H (rgI id it kk ms se :: l) = Facts H l := Eq.trans rfl rfl
def keyI (e : MA) : Int := e.1.headD 0
def kL (ms : List MA) (seen : List Nat) : List Int := seen.map fun i => keyI (ms.getD i ([], .undef))
theorem keyI_at {ms : List MA} (hk : ∀ e, e ∈ ms → e.1 = [keyI e]) {i : Nat} (hi : i < ms.length) : KK.i.a ms[i].1 = .int .i64 (keyI ms[i]) := by
 rw [hk _ (List.getElem_mem hi)]; rfl
theorem kL_add {ms : List MA} {seen : List Nat} {i : Nat} (hi : i < ms.length) : kL ms (seen ++ [i]) = kL ms seen ++ [keyI ms[i]] := by
 simp [kL, List.getD_eq_getElem?_getD, List.getElem?_eq_getElem hi]
theorem seen_len {n : Nat} {l : List Nat} (h : l.Nodup) (hb : ∀ i, i ∈ l → i < n) : l.length ≤ n := by
 induction n generalizing l with
 | zero => cases l with
  | nil => simp
  | cons a l => exact absurd (hb a (by simp)) (by omega)
 | succ n ih =>
  by_cases hm : n ∈ l
  ·have := ih (l := l.erase n) (h.erase n) (fun i hi => by
    have h1 := (h.mem_erase_iff).1 hi
    have := hb i h1.2
    omega)
   rw [List.length_erase_of_mem hm] at this
   omega
  ·have := ih h (fun i hi => by
    have := hb i hi
    have : i ≠ n := fun e => hm (e ▸ hi)
    omega)
   omega
theorem kL_perm {ms : List MA} {seen : List Nat} (h : seen.Nodup) (hb : ∀ i, i ∈ seen → i < ms.length) (ha : ∀ i, i < ms.length → i ∈ seen) : (kL ms seen).Perm (ms.map keyI) := by
 have hp : seen.Perm (List.range ms.length) := (List.perm_ext_iff_of_nodup h List.nodup_range).2 fun i => by rw [List.mem_range]; exact ⟨hb i, ha i⟩
 have := hp.map (fun i => keyI (ms.getD i ([], .undef)))
 refine this.trans (.of_eq ?_)
 refine List.ext_getElem? fun i => ?_
 rw [List.getElem?_map, List.getElem?_map]
 by_cases hi : i < ms.length
 ·simp [List.getElem?_range hi, hi, List.getD_eq_getElem?_getD]
 ·simp [hi, List.getElem?_eq_none (l := List.range ms.length) (i := i) (by simp; omega)]
section
variable {B : Nat} {w0 : World} {n : Nat} {H : AHeap} {L R : List Item} {K : AV → AHeap → Prop}

theorem c95 {m pK lY : Nat} {ms : List MA} {Z : List Nat → List Item → Prop} {X : List Item} (hS : Hv H (mpI m .i ms :: .obj pK (.cells [.map (some m)]) :: (X ++ R))) (hZ : Z [] X)
  (hY : ∀ (seen : List Nat) (i : Nat) (hi : i < ms.length) (it : Nat) (H : AHeap) (X : List Item) (K' : AV → AHeap → Prop), i ∉ seen → seen.length < ms.length → Z seen X → Hv H (rgI m it .i ms (seen ++ [i]) :: .obj pK (.cells [.map (some m)]) :: (X ++ R)) →
   (∀ H' X', Z (seen ++ [i]) X' → Hv H' (rgI m it .i ms (seen ++ [i]) :: .obj pK (.cells [.map (some m)]) :: (X' ++ R)) → K' (.bool true) H') → roundY Try.prog B w0 lY [KK.i.a ms[i].1] H K')
  (hK : ∀ H' X seen, seen.Nodup → (∀ i, i ∈ seen → i < ms.length) → (∀ i, i < ms.length → i ∈ seen) → Z seen X → Hv H' (mpI m .i ms :: .obj pK (.cells [.map (some m)]) :: (X ++ R)) → K (.tup []) H') :
  ACall Try.prog B w0 95 [.fn (.yield lY) [] [], .ptr pK 0] H K := by
 refine ACall.ret ?_
 refine ACall.enterK Try.f95 Try.func95 (by kernel_rfl) rfl (eawp_sound roundY_sound _ _ _ _ ?_)
 have hF := True.intro
 have F := hS.facts
 have h0 := True.intro
 repeat' (first | ((with_reducible refine atEany ?_); first | refine pSeq rfl ?_ | refine pBlk rfl ?_ | refine pLoop rfl ?_ | refine pRange rfl ?_ | refine pDraw rfl ?_) | ((first
  | (clear h0)
  | ((with_reducible refine atGBr ?_); (refine Br.go2 (fun h => ?_) (fun h => ?_)) <;> replace hF := And.intro h hF)
  | ((with_reducible refine atGbr ?_); (refine branch_go2 (fun h => ?_) (fun h => ?_)) <;> replace hF := And.intro h hF)
  | ((with_reducible refine atEany ?_); first | refine pReg rfl ?_ | refine pCond rfl ?_ | refine pRet rfl ?_ | refine pExit rfl ?_ | refine pSkip rfl ?_)
  | (refine ran_mp und88 (by (repeat first | exact pH | apply pT); fail_if_success refine ?_) hS ?_; intro it H hS)
  | ((with_reducible refine atLoop ?_); refine AWP.loopI (σ := List Nat) [] (fun _ => [.k, .k, .d, .d, .d, .k, .d, .d, .d, .d, .d, .d, .d, .d]) (fun seen H => seen.Nodup ∧ (∀ i, i ∈ seen → i < ms.length) ∧ ∃ X, Z seen X ∧ Hv H (rgI m it .i ms seen :: .obj pK (.cells [.map (some m)]) :: (X ++ R))) (fun s => ms.length - s.length) (by (repeat first | exact sZ | with_reducible apply sD | with_reducible apply sK | apply sP | apply sF | apply sN | apply sT)) ⟨List.nodup_nil, by simp, X, hZ, hS⟩ (fun seen H hJ => ?_); obtain ⟨hnd, hbd, X, hZ, hS⟩ := hJ; refine eawp_sound roundY_sound _ _ _ _ ?_; simp only [applyS_d, applyS_k, applyS_p, applyS_nil])
  | (refine nxt_rg (by (repeat first | exact pH | apply pT); fail_if_success refine ?_) hS (fun i hi hns H hS => ?_) (fun hall hS => ?_))
  | (refine cur_rg (by (repeat first | exact pH | apply pT); fail_if_success refine ?_) hS hi ?_)
  | (have hsl := seen_len (n := ms.length) (l := seen ++ [i]) (List.nodup_append.2 ⟨hnd, by simp, fun a ha b hb => by simp at hb; subst hb; exact fun e => hns (e ▸ ha)⟩) (fun j hj => by rcases List.mem_append.1 hj with hj | hj; exact hbd j hj; simp at hj; omega); refine hY _ _ hi _ _ _ _ hns (by simp at hsl; omega) hZ hS ?_; intro H X hZ hS)
  | ((with_reducible refine atEx ?_); exact ⟨seen ++ [i], by ((repeat first | exact sZ | with_reducible apply sD | with_reducible apply sK | apply sP | apply sF | apply sN | apply sT); fail_if_success refine ?_), ⟨List.nodup_append.2 ⟨hnd, by simp, fun a ha b hb => by simp at hb; subst hb; exact fun e => hns (e ▸ ha)⟩, (fun j hj => by rcases List.mem_append.1 hj with hj | hj; exact hbd j hj; simp at hj; omega), X, hZ, hS⟩, by simp at hsl ⊢; omega⟩)
  | ((with_reducible refine atRet ?_); refine RetK.here ?_; exact hK _ _ _ hnd hbd hall hZ hS)) <;> (replace F := hS.facts; (try simp only [Facts_obj, Facts_tl, Facts_own, Facts_pool, Facts_mp, Facts_rg] at F); try simp only [EVA, reduceIte, reduceCtorEq, Nat.reduceEqDiff, Nat.reduceLT, Nat.reduceLeDiff, Int.reduceEq, Int.reduceLT, Int.reduceLE, Nat.reduceMul, Int.reduceToNat, Nat.reduceAdd, Int.reduceAdd, Int.reduceSub, Int.reduceMul, Int.reduceNeg, Try.ntmps95, (show Try.f95.results.toList = [] from rfl), (show IntKind.i64.wrap 1 = 1 from rfl), (show IntKind.i64.wrap (-1) = -1 from rfl), eop_lookup, eop_mapUpdate, eop_range, eop_next, eop_entry, eop_makeMap, hF, F])))
theorem c104 {m pK : Nat} {ms : List MA} (hk : ∀ e, e ∈ ms → e.1 = [keyI e]) (hc : ms.length ≤ 1024) (hS : Hv H (mpI m .i ms :: .obj pK (.cells [.map (some m)]) :: R))
  (hK : ∀ (v : AV) (ks : List Int) H', ks.Perm (ms.map keyI) → Hv H' (.own 1 v (List.map (AV.int .i64) ks) :: mpI m .i ms :: R) → K v H') :
  ACall Try.prog B w0 104 [.dl 0 [] .full, .fn (.func 95) [] [.ptr pK 0]] H K := by
 refine ACall.ret ?_
 refine ACall.enterK Try.f104 Try.func104 (by kernel_rfl) rfl (eawp_sound noY_sound _ _ _ _ ?_)
 have hF := True.intro
 have F := hS.facts
 have h0 := True.intro
 repeat' (first | ((with_reducible refine atEany ?_); first | refine pSeq rfl ?_ | refine pBlk rfl ?_ | refine pLoop rfl ?_ | refine pRange rfl ?_ | refine pDraw rfl ?_) | ((first
  | (clear h0)
  | ((with_reducible refine atGBr ?_); (refine Br.go2 (fun h => ?_) (fun h => ?_)) <;> replace hF := And.intro h hF)
  | ((with_reducible refine atGbr ?_); (refine branch_go2 (fun h => ?_) (fun h => ?_)) <;> replace hF := And.intro h hF)
  | ((with_reducible refine atEany ?_); first | refine pReg rfl ?_ | refine pCond rfl ?_ | refine pRet rfl ?_ | refine pExit rfl ?_ | refine pSkip rfl ?_)
  | ((with_reducible refine atBox2 2 ?_); refine box_go rfl hS ?_; intro o2 H hS; simp only [AV.cells] at hS)
  | ((with_reducible refine atRange ?_); refine AWP.rangeGo6 (fun _ e => by cases e) rfl hS ?_; intro lp H lpx KE hl0 hr he0 he1 he2 hS; refine c95 (X := [.obj lp (lpx 0), .obj o2 (.cells [.dl 0 [] .full]), .own 1 (.dl 0 [] .full) (List.map (AV.int .i64) [])]) (R := R) (Z := fun seen X => ∃ v, X = [.obj lp (lpx 0), .obj o2 (.cells [v]), .own 1 v (List.map (AV.int .i64) (kL ms seen))]) (hS.need0 (by simp only [List.cons_append, List.nil_append, List.map_nil]; (repeat first | exact mD | (apply mT; (· (repeat first | exact pH | apply pT))) | (apply mV; (· assumption); (· (repeat first | exact pH | apply pT)); (· first | exact (by simp) | exact SzC.flat (fun _ => rfl) _)) | (apply mO; (· (repeat first | exact pH | apply pT)); (· first | exact (by simp) | exact SzC.flat (fun _ => rfl) _)) | apply mF | apply mE | apply mX))) ⟨_, rfl⟩ ?_ ?_ <;> first | (rintro seen i hi it H X K' hns hsl ⟨v, rfl⟩ hS hK'; rw [keyI_at hk hi]; simp only [List.cons_append, List.nil_append] at hS; refine hr _ _ _ _ (hS.pull (by (repeat first | exact pH | apply pT); fail_if_success refine ?_)) rfl ?_; intro Qa hqa; refine eawp_sound noY_sound _ _ _ _ ?_) | (rintro H X seen hnd hbd hall ⟨v, rfl⟩ hS; simp only [List.cons_append, List.nil_append] at hS; refine he0 _ _ _ (hS.pull (by (repeat first | exact pH | apply pT); fail_if_success refine ?_)) ?_; intro H hS))
  | (refine hqa _ _ _ (hS.pull (by (repeat first | exact pH | apply pT); fail_if_success refine ?_)) ?_; intro H lp2 Qr hlp hS hq1 hq2 hq3; refine eawp_sound noY_sound _ _ _ _ ?_)
  | ((with_reducible refine atAppE2 11 ?_); refine appO_own1 (enc := AV.int .i64) (fun _ => rfl) apt31 (src1_AVinti64 ty31 rfl) (by (repeat first | exact mD | (apply mT; (· (repeat first | exact pH | apply pT))) | (apply mV; (· assumption); (· (repeat first | exact pH | apply pT)); (· first | exact (by simp) | exact SzC.flat (fun _ => rfl) _)) | (apply mO; (· (repeat first | exact pH | apply pT)); (· first | exact (by simp) | exact SzC.flat (fun _ => rfl) _)) | apply mF | apply mE | apply mX); fail_if_success refine ?_) hS (by simp [kL]; omega) ?_; intro v1 H hS)
  | ((with_reducible refine atSto 31 ?_); refine sto_own ty31 (by (repeat first | exact pH | apply pT); fail_if_success refine ?_) (by (repeat first | exact pH | apply pT); fail_if_success refine ?_) hS (by rfl) (by exact Nat.le_of_ble_eq_true rfl) ?_; intro H hS; simp only [putA_nil, putA_0, putA_s, List.cons_append, List.nil_append, AV.cells, List.length_cons, List.length_nil, List.drop_succ_cons, List.drop_zero, Nat.reduceAdd] at hS)
  | (refine hq1 _ _ _ (hS.pull (by (repeat first | exact pH | apply pT); fail_if_success refine ?_)) ?_; intro H hS; exact hK' _ _ ⟨v1, rfl⟩ (by rw [kL_add hi]; simp only [List.cons_append, List.nil_append]; exact hS.need0 (by (repeat first | exact mD | (apply mT; (· (repeat first | exact pH | apply pT))) | (apply mV; (· assumption); (· (repeat first | exact pH | apply pT)); (· first | exact (by simp) | exact SzC.flat (fun _ => rfl) _)) | (apply mO; (· (repeat first | exact pH | apply pT)); (· first | exact (by simp) | exact SzC.flat (fun _ => rfl) _)) | apply mF | apply mE | apply mX))))
  | ((with_reducible refine atRet ?_); refine RetK.here ?_; exact hK _ _ _ (kL_perm hnd hbd hall) (hS.need0 (by (repeat first | exact mD | (apply mT; (· (repeat first | exact pH | apply pT))) | (apply mV; (· assumption); (· (repeat first | exact pH | apply pT)); (· first | exact (by simp) | exact SzC.flat (fun _ => rfl) _)) | (apply mO; (· (repeat first | exact pH | apply pT)); (· first | exact (by simp) | exact SzC.flat (fun _ => rfl) _)) | apply mF | apply mE | apply mX))))) <;> (replace F := hS.facts; (try simp only [Facts_obj, Facts_tl, Facts_own, Facts_pool, Facts_mp, Facts_rg] at F); try simp only [EVA, reduceIte, reduceCtorEq, Nat.reduceEqDiff, Nat.reduceLT, Nat.reduceLeDiff, Int.reduceEq, Int.reduceLT, Int.reduceLE, Nat.reduceMul, Int.reduceToNat, Nat.reduceAdd, Int.reduceAdd, Int.reduceSub, Int.reduceMul, Int.reduceNeg, Try.ntmps104, (show Try.f104.results.toList = [.tmp 4] from rfl), (show IntKind.i64.wrap 1 = 1 from rfl), (show IntKind.i64.wrap (-1) = -1 from rfl), Int.reduceEq, hF, F])))
theorem c93 {m pK : Nat} {ms : List MA} (hk : ∀ e, e ∈ ms → e.1 = [keyI e]) (hc : ms.length ≤ 1024) (hS : Hv H (mpI m .i ms :: .obj pK (.cells [.map (some m)]) :: R))
  (hK : ∀ (v : AV) (ks : List Int) H', ks.Perm (ms.map keyI) → Hv H' (.own 1 v (List.map (AV.int .i64) ks) :: mpI m .i ms :: R) → K v H') :
  ACall Try.prog B w0 93 [.fn (.func 95) [] [.ptr pK 0]] H K := by
 refine ACall.ret ?_
 refine ACall.enterK Try.f93 Try.func93 (by kernel_rfl) rfl (eawp_sound noY_sound _ _ _ _ ?_)
 have hF := True.intro
 have F := hS.facts
 have h0 := True.intro
 repeat' (first | ((with_reducible refine atEany ?_); first | refine pSeq rfl ?_ | refine pBlk rfl ?_ | refine pLoop rfl ?_ | refine pRange rfl ?_ | refine pDraw rfl ?_) | ((first
  | (clear h0)
  | ((with_reducible refine atGBr ?_); (refine Br.go2 (fun h => ?_) (fun h => ?_)) <;> replace hF := And.intro h hF)
  | ((with_reducible refine atGbr ?_); (refine branch_go2 (fun h => ?_) (fun h => ?_)) <;> replace hF := And.intro h hF)
  | ((with_reducible refine atEany ?_); first | refine pReg rfl ?_ | refine pCond rfl ?_ | refine pRet rfl ?_ | refine pExit rfl ?_ | refine pSkip rfl ?_)
  | ((with_reducible refine atF 104 ?_); refine c104 hk hc hS ?_; intro v ks H hp hS)
  | ((with_reducible refine atRet ?_); refine RetK.here ?_; exact hK _ _ _ hp hS)) <;> (replace F := hS.facts; (try simp only [Facts_obj, Facts_tl, Facts_own, Facts_pool, Facts_mp] at F); try simp only [EVA, reduceIte, reduceCtorEq, Nat.reduceEqDiff, Nat.reduceLT, Nat.reduceLeDiff, Int.reduceEq, Int.reduceLT, Int.reduceLE, Nat.reduceMul, Int.reduceToNat, Nat.reduceAdd, Int.reduceAdd, Int.reduceSub, Int.reduceMul, Int.reduceNeg, Try.ntmps93, (show Try.f93.results.toList = [.tmp 2] from rfl), (show IntKind.i64.wrap 1 = 1 from rfl), (show IntKind.i64.wrap (-1) = -1 from rfl), hF, F])))
theorem c94s {v : AV} {l : List Int} {L' : List Item} (hp : Pull L (.own 1 v (List.map (AV.int .i64) l)) L') (hS : Hv H L) (hl : l.length < 4611686018427387904) (hK : ∀ H', Hv H' (.own 1 v (List.map (AV.int .i64) (l.mergeSort fun x y => decide (x ≤ y))) :: L') → K (.tup []) H') : ACall Try.prog B w0 94 [v] H K :=
 ACall.sortO (fun args w => enters_of Try.func94 (by kernel_rfl) rfl args w) (fun blk off cap zs w hH hb hz => Any.slices_Sort_int Try.lays189 blk off cap zs w hH hb hz) (fun p cap w => Any.slices_Sort_int_none Try.lays189 p cap w) hp hS hl hK
/-- the keys, sorted -/
def kS (ms : List MA) : List Int := (ms.map keyI).mergeSort fun x y => decide (x ≤ y)
theorem sort_perm {l l' : List Int} (h : l.Perm l') : (l.mergeSort fun x y => decide (x ≤ y)) = (l'.mergeSort fun x y => decide (x ≤ y)) := by
 have hp := (List.mergeSort_perm l (fun x y => decide (x ≤ y))).trans (h.trans (List.mergeSort_perm l' (fun x y => decide (x ≤ y))).symm)
 refine hp.eq_of_pairwise (le := fun a b => a ≤ b) (fun a b _ _ h1 h2 => Int.le_antisymm h1 h2) ?_ ?_
 ·exact (List.pairwise_mergeSort (le := fun x y : Int => decide (x ≤ y)) (fun a b c h1 h2 => by simp at *; omega) (fun a b => by simp; omega) l).imp (fun h => by simpa using h)
 ·exact (List.pairwise_mergeSort (le := fun x y : Int => decide (x ≤ y)) (fun a b c h1 h2 => by simp at *; omega) (fun a b => by simp; omega) l').imp (fun h => by simpa using h)
theorem c79 {m pK : Nat} {ms : List MA} (hk : ∀ e, e ∈ ms → e.1 = [keyI e]) (hc : ms.length ≤ 1024) (hS : Hv H (mpI m .i ms :: .obj pK (.cells [.map (some m)]) :: R))
  (hK : ∀ H', Hv H' (mpI m .i ms :: R) → K (.dl 1 (List.map (AV.int .i64) (kS ms)) .none) H') :
  ACall Try.prog B w0 79 [.fn (.func 95) [] [.ptr pK 0]] H K := by
 refine ACall.retF ?_
 refine ACall.enterK Try.f79 Try.func79 (by kernel_rfl) rfl (eawp_sound noY_sound _ _ _ _ ?_)
 have hF := True.intro
 have F := hS.facts
 have h0 := True.intro
 repeat' (first | ((with_reducible refine atEany ?_); first | refine pSeq rfl ?_ | refine pBlk rfl ?_ | refine pLoop rfl ?_ | refine pRange rfl ?_ | refine pDraw rfl ?_) | ((first
  | (clear h0)
  | ((with_reducible refine atGBr ?_); (refine Br.go2 (fun h => ?_) (fun h => ?_)) <;> replace hF := And.intro h hF)
  | ((with_reducible refine atGbr ?_); (refine branch_go2 (fun h => ?_) (fun h => ?_)) <;> replace hF := And.intro h hF)
  | ((with_reducible refine atEany ?_); first | refine pReg rfl ?_ | refine pCond rfl ?_ | refine pRet rfl ?_ | refine pExit rfl ?_ | refine pSkip rfl ?_)
  | ((with_reducible refine atF 93 ?_); refine c93 hk hc hS ?_; intro v ks H hp hS)
  | ((with_reducible refine atF 94 ?_); refine c94s (by (repeat first | exact pH | apply pT); fail_if_success refine ?_) hS (by have := hp.length_eq; simp at this; omega) ?_; intro H hS; rw [sort_perm hp] at hS)
  | ((with_reducible refine atRetF ?_); refine RetF.own1 (enc := AV.int .i64) (fun _ => rfl) (by (repeat first | exact mD | (apply mT; (· (repeat first | exact pH | apply pT))) | (apply mV; (· assumption); (· (repeat first | exact pH | apply pT)); (· first | exact (by simp) | exact SzC.flat (fun _ => rfl) _)) | (apply mO; (· (repeat first | exact pH | apply pT)); (· first | exact (by simp) | exact SzC.flat (fun _ => rfl) _)) | apply mF | apply mE | apply mX)) Rep.here hS ?_; intro H hS; exact .ret (RetK.here (hK H hS)))) <;> (replace F := hS.facts; (try simp only [Facts_obj, Facts_tl, Facts_own, Facts_pool, Facts_mp] at F); try simp only [EVA, reduceIte, reduceCtorEq, Nat.reduceEqDiff, Nat.reduceLT, Nat.reduceLeDiff, Int.reduceEq, Int.reduceLT, Int.reduceLE, Nat.reduceMul, Int.reduceToNat, Nat.reduceAdd, Int.reduceAdd, Int.reduceSub, Int.reduceMul, Int.reduceNeg, Try.ntmps79, (show Try.f79.results.toList = [.tmp 2] from rfl), (show IntKind.i64.wrap 1 = 1 from rfl), (show IntKind.i64.wrap (-1) = -1 from rfl), hF, F])))
theorem c80 {m : Nat} {ms : List MA} (hS : Hv H (mpI m .i ms :: R)) (hK : ∀ (pK : Nat) H', Hv H' (mpI m .i ms :: .obj pK (.cells [.map (some m)]) :: R) → K (.fn (.func 95) [] [.ptr pK 0]) H') :
  ACall Try.prog B w0 80 [.map (some m)] H K := by
 refine ACall.ret ?_
 refine ACall.enterK Try.f80 Try.func80 (by kernel_rfl) rfl (eawp_sound noY_sound _ _ _ _ ?_)
 have hF := True.intro
 have F := hS.facts
 have h0 := True.intro
 repeat' (first | ((with_reducible refine atEany ?_); first | refine pSeq rfl ?_ | refine pBlk rfl ?_ | refine pLoop rfl ?_ | refine pRange rfl ?_ | refine pDraw rfl ?_) | ((first
  | (clear h0)
  | ((with_reducible refine atGBr ?_); (refine Br.go2 (fun h => ?_) (fun h => ?_)) <;> replace hF := And.intro h hF)
  | ((with_reducible refine atGbr ?_); (refine branch_go2 (fun h => ?_) (fun h => ?_)) <;> replace hF := And.intro h hF)
  | ((with_reducible refine atEany ?_); first | refine pReg rfl ?_ | refine pCond rfl ?_ | refine pRet rfl ?_ | refine pExit rfl ?_ | refine pSkip rfl ?_)
  | ((with_reducible refine atBox2 1 ?_); refine box_go rfl hS ?_; intro o1 H hS; simp only [AV.cells] at hS)
  | ((with_reducible refine atRet ?_); refine RetK.here ?_; exact hK _ _ (hS.need0 (by (repeat first | exact mD | (apply mT; (· (repeat first | exact pH | apply pT))) | (apply mV; (· assumption); (· (repeat first | exact pH | apply pT)); (· first | exact (by simp) | exact SzC.flat (fun _ => rfl) _)) | (apply mO; (· (repeat first | exact pH | apply pT)); (· first | exact (by simp) | exact SzC.flat (fun _ => rfl) _)) | apply mF | apply mE | apply mX))))) <;> (replace F := hS.facts; (try simp only [Facts_obj, Facts_tl, Facts_own, Facts_pool, Facts_mp] at F); try simp only [EVA, reduceIte, reduceCtorEq, Nat.reduceEqDiff, Nat.reduceLT, Nat.reduceLeDiff, Int.reduceEq, Int.reduceLT, Int.reduceLE, Nat.reduceMul, Int.reduceToNat, Nat.reduceAdd, Int.reduceAdd, Int.reduceSub, Int.reduceMul, Int.reduceNeg, Try.ntmps80, (show Try.f80.results.toList = [.tmp 2] from rfl), (show IntKind.i64.wrap 1 = 1 from rfl), (show IntKind.i64.wrap (-1) = -1 from rfl), hF, F])))
end
end Go.Av
end

section
set_option linter.unusedSimpArgs false
set_option linter.unusedVariables false
set_option linter.unnecessarySimpa false
set_option maxHeartbeats 8000000
set_option maxRecDepth 10000
namespace Go.Av
open Go.RowKit Go.Proofs
theorem PInv.keys {g : PG} {s : PSt} (hI : PInv g s) : (g.ms.map keyI).Perm (s.jobs.map (·.id)) := by
 refine (hI.perm.map keyI).trans (.of_eq ?_)
 refine List.ext_getElem (by rw [List.length_map, List.length_map, keys_len hI.len]) fun i h1 h2 => ?_
 simp [keyE, keyI]
theorem PInv.kS {g : PG} {s : PSt} (hI : PInv g s) : kS g.ms = s.jobs.map (·.id) := by
 unfold Go.Av.kS
 rw [sort_perm hI.keys]
 refine List.mergeSort_of_pairwise ?_
 rw [List.pairwise_map]
 exact hI.sorted.imp fun h => by simp; omega
theorem PInv.hk {g : PG} {s : PSt} (hI : PInv g s) : ∀ e, e ∈ g.ms → e.1 = [keyI e] := by
 intro e he
 obtain ⟨i, h1, h2, rfl⟩ := hI.mem.1 he
 rfl
theorem PInv.mc {g : PG} {s : PSt} (hI : PInv g s) : g.ms.length ≤ 1024 := by
 have := hI.perm.length_eq; rw [keys_len hI.len] at this; have := hI.count; omega
theorem PInv.lkJ {g : PG} {s : PSt} (hI : PInv g s) {i : Nat} (h1 : i < g.js.length) (h2 : i < s.jobs.length) : lkA g.ms [s.jobs[i].id] = some (.ptr g.js[i].jid 0) := by
 rcases hI.look s.jobs[i].id with ⟨k, k1, k2, e1, e2, e3⟩ | ⟨e2, e3, e4⟩
 ·obtain rfl := ids_inj hI.sorted k2 h2 e1
  exact e3
 ·exact absurd rfl (e4 _ (List.getElem_mem h2))
theorem wrapS {i : Nat} (h : i < 1024) : IntKind.i64.wrap ((i : Int) + 1) = ((i + 1 : Nat) : Int) := by rw [wrap_i64 (by omega) (by omega)]; rfl
theorem natZ (n : Nat) : (0 ≤ (n : Int)) = True := eq_true (by omega)
theorem ids_getD {js : List PJob} {i : Nat} (hi : i < js.length) : (List.map (AV.int .i64) (List.map (fun x => x.id) js)).getD i AV.undef = .int .i64 js[i].id := by
 rw [List.getD_eq_getElem?_getD, List.getElem?_map, List.getElem?_map, List.getElem?_eq_getElem hi]; rfl
theorem refoc {H : AHeap} {A L : List Item} {gs : List JG} {js : List PJob} {i : Nat} (h1 : i < gs.length) (h2 : i < js.length) {g : JG} {j : PJob} (e1 : gs[i] = g) (e2 : js[i] = j) (h : Hv H (jobL g j ++ (A ++ (jrest gs js i ++ L)))) : Hv H (A ++ (jobsL gs js ++ L)) := by
 subst e1; subst e2
 have := Hv.unf h1 h2 h
 simpa using this
theorem ids_some {js : List PJob} {i : Nat} {a : Int} {b : List Int} {t : List PTry} {r : PAns} (h2 : i < js.length) (e : js[i] = ⟨a, b, t, some r⟩) : ((js.take (i + 1)).filter fun j => j.ans.isNone).map (·.id) = ((js.take i).filter fun j => j.ans.isNone).map (·.id) := by
 rw [List.take_succ_eq_append_getElem h2, e]; simp
theorem ids_none {js : List PJob} {i : Nat} {a : Int} {b : List Int} {t : List PTry} (h2 : i < js.length) (e : js[i] = ⟨a, b, t, none⟩) : ((js.take (i + 1)).filter fun j => j.ans.isNone).map (·.id) = ((js.take i).filter fun j => j.ans.isNone).map (·.id) ++ [a] := by
 rw [List.take_succ_eq_append_getElem h2, e]; simp
theorem ids_len {js : List PJob} {i : Nat} : (((js.take i).filter fun j => j.ans.isNone).map (·.id)).length ≤ js.length := by
 rw [List.length_map]; exact Nat.le_trans (List.length_filter_le _ _) (by simp; omega)
section
variable {B : Nat} {w0 : World} {n : Nat} {H : AHeap} {L R : List Item} {K : AV → AHeap → Prop}

theorem c78 {pa0 pC lY : Nat} {g : PG} {s : PSt} {v1 v2 v3 : AV} {Z : Nat → List Item → Prop} {X : List Item} (hI : PInv g s) (hS : Hv H (.obj pC (.cells [.ptr pa0 0]) :: .obj pa0 (.cells [v1, v2, v3, .map (some g.m)]) :: mpI g.m .i g.ms :: (X ++ R))) (hZ : Z 0 X)
  (hY : ∀ (i : Nat) (h1 : i < g.js.length) (h2 : i < s.jobs.length) (H : AHeap) (X : List Item) (K' : AV → AHeap → Prop), Z i X → Hv H (.obj pC (.cells [.ptr pa0 0]) :: .obj pa0 (.cells [v1, v2, v3, .map (some g.m)]) :: mpI g.m .i g.ms :: (X ++ R)) → (∀ H' X', Z (i + 1) X' → Hv H' (.obj pC (.cells [.ptr pa0 0]) :: .obj pa0 (.cells [v1, v2, v3, .map (some g.m)]) :: mpI g.m .i g.ms :: (X' ++ R)) → K' (.bool true) H') → (∀ H', K (.tup []) H' → K' (.bool false) H') → roundY Try.prog B w0 lY [.ptr g.js[i].jid 0] H K')
  (hK : ∀ H' X, Z s.jobs.length X → Hv H' (.obj pC (.cells [.ptr pa0 0]) :: .obj pa0 (.cells [v1, v2, v3, .map (some g.m)]) :: mpI g.m .i g.ms :: (X ++ R)) → K (.tup []) H') :
  ACall Try.prog B w0 78 [.fn (.yield lY) [] [], .ptr pC 0] H K := by
 refine ACall.ret ?_
 refine ACall.enterK Try.f78 Try.func78 (by kernel_rfl) rfl (eawp_sound roundY_sound _ _ _ _ ?_)
 have hF := True.intro
 have F := hS.facts
 have h0 := True.intro
 repeat' (first | ((with_reducible refine atEany ?_); first | refine pSeq rfl ?_ | refine pBlk rfl ?_ | refine pLoop rfl ?_ | refine pRange rfl ?_ | refine pDraw rfl ?_) | ((first
  | (clear h0)
  | ((with_reducible refine atGBr ?_); (refine Br.go2 (fun h => ?_) (fun h => ?_)) <;> replace hF := And.intro h hF)
  | ((with_reducible refine atGbr ?_); (refine branch_go2 (fun h => ?_) (fun h => ?_)) <;> replace hF := And.intro h hF)
  | ((with_reducible refine atEany ?_); first | refine pReg rfl ?_ | refine pCond rfl ?_ | refine pRet rfl ?_ | refine pExit rfl ?_ | refine pSkip rfl ?_)
  | ((with_reducible refine atF 80 ?_); refine c80 (hS.pull (by (repeat first | exact pH | apply pT); fail_if_success refine ?_)) ?_; intro pK H hS)
  | ((with_reducible refine atF 79 ?_); refine c79 hI.hk hI.mc hS ?_; intro H hS; rw [hI.kS])
  | ((with_reducible refine atLoop ?_); refine AWP.loopI (σ := Nat) 0 (fun i => [.k, .k, .d, .d, .d, .d, .d, .d, .d, .d, .k, .k, .p (.int .i64 (i : Nat)), .d, .d, .d, .d, .d, .d, .d, .d, .d, .d, .d, .d, .d]) (fun i H => i ≤ s.jobs.length ∧ ∃ X, Z i X ∧ Hv H (.obj pC (.cells [.ptr pa0 0]) :: .obj pa0 (.cells [v1, v2, v3, .map (some g.m)]) :: mpI g.m .i g.ms :: (X ++ R))) (fun i => s.jobs.length - i) (by (repeat first | exact sZ | with_reducible apply sD | with_reducible apply sK | apply sP | apply sF | apply sN | apply sT)) ⟨by omega, X, hZ, hS.need0 (by (repeat first | exact mD | (apply mT; (· (repeat first | exact pH | apply pT))) | (apply mV; (· assumption); (· (repeat first | exact pH | apply pT)); (· first | exact (by simp) | exact SzC.flat (fun _ => rfl) _)) | (apply mO; (· (repeat first | exact pH | apply pT)); (· first | exact (by simp) | exact SzC.flat (fun _ => rfl) _)) | apply mF | apply mE | apply mX))⟩ (fun i H hJ => ?_); obtain ⟨hil, X, hZ, hS⟩ := hJ; refine eawp_sound roundY_sound _ _ _ _ ?_; simp only [applyS_d, applyS_k, applyS_p, applyS_nil])
  | (have h2 : i < s.jobs.length := (by simp at hF; omega); rw [ids_getD h2])
  | (have h1 : i < g.js.length := (by rw [hI.len]; simp at hF; omega); have h2 : i < s.jobs.length := (by simp at hF; omega); refine look_mp (kk := .i) (key := [s.jobs[i].id]) mt88 (by (repeat first | exact pH | apply pT); fail_if_success refine ?_) hS rfl ?_; rw [hI.lkJ h1 h2])
  | (refine hY i h1 h2 _ _ _ hZ hS (fun H X hZ hS => ?_) (fun H hfin => ?_))
  | ((with_reducible refine atEx ?_); have hcn := hI.count; rw [wrapS (show i < 1024 by omega)]; exact ⟨i + 1, by ((repeat first | exact sZ | with_reducible apply sD | with_reducible apply sK | apply sP | apply sF | apply sN | apply sT); fail_if_success refine ?_), ⟨by omega, X, hZ, hS⟩, by omega⟩)
  | ((with_reducible refine atRet ?_); first | exact RetK.here hfin | (have e : i = s.jobs.length := (by simp at hF; omega); exact RetK.here (hK _ _ (e ▸ hZ) hS)))) <;> (replace F := hS.facts; (try simp only [Facts_obj, Facts_tl, Facts_own, Facts_pool, Facts_mp] at F); try simp only [EVA, reduceIte, reduceCtorEq, Nat.reduceEqDiff, Nat.reduceLT, Nat.reduceLeDiff, Int.reduceEq, Int.reduceLT, Int.reduceLE, Nat.reduceMul, Int.reduceToNat, Nat.reduceAdd, Int.reduceAdd, Int.reduceSub, Int.reduceMul, Int.reduceNeg, Try.ntmps78, (show Try.f78.results.toList = [] from rfl), (show IntKind.i64.wrap 1 = 1 from rfl), (show IntKind.i64.wrap (-1) = -1 from rfl), eop_lookup, eop_mapUpdate, eop_range, eop_next, eop_entry, eop_makeMap, List.length_map, natZ, AV.cells, Option.getD_some, Option.getD_none, okV_f, okV_t, loadA, hF, F])))
theorem c47 {p : Nat} (hS : Hv H L) (hK : ∀ (pC : Nat) H', Hv H' (.obj pC (.cells [.ptr p 0]) :: L) → K (.fn (.func 78) [] [.ptr pC 0]) H') :
  ACall Try.prog B w0 47 [.ptr p 0] H K := by
 refine ACall.ret ?_
 refine ACall.enterK Try.f47 Try.func47 (by kernel_rfl) rfl (eawp_sound noY_sound _ _ _ _ ?_)
 have hF := True.intro
 have F := hS.facts
 have h0 := True.intro
 repeat' (first | ((with_reducible refine atEany ?_); first | refine pSeq rfl ?_ | refine pBlk rfl ?_ | refine pLoop rfl ?_ | refine pRange rfl ?_ | refine pDraw rfl ?_) | ((first
  | (clear h0)
  | ((with_reducible refine atGBr ?_); (refine Br.go2 (fun h => ?_) (fun h => ?_)) <;> replace hF := And.intro h hF)
  | ((with_reducible refine atGbr ?_); (refine branch_go2 (fun h => ?_) (fun h => ?_)) <;> replace hF := And.intro h hF)
  | ((with_reducible refine atEany ?_); first | refine pReg rfl ?_ | refine pCond rfl ?_ | refine pRet rfl ?_ | refine pExit rfl ?_ | refine pSkip rfl ?_)
  | ((with_reducible refine atBox2 1 ?_); refine box_go rfl hS ?_; intro o1 H hS; simp only [AV.cells] at hS)
  | ((with_reducible refine atRet ?_); refine RetK.here ?_; exact hK _ _ hS)) <;> (replace F := hS.facts; (try simp only [Facts_obj, Facts_tl, Facts_own, Facts_pool, Facts_mp] at F); try simp only [EVA, reduceIte, reduceCtorEq, Nat.reduceEqDiff, Nat.reduceLT, Nat.reduceLeDiff, Int.reduceEq, Int.reduceLT, Int.reduceLE, Nat.reduceMul, Int.reduceToNat, Nat.reduceAdd, Int.reduceAdd, Int.reduceSub, Int.reduceMul, Int.reduceNeg, Try.ntmps47, (show Try.f47.results.toList = [.tmp 2] from rfl), (show IntKind.i64.wrap 1 = 1 from rfl), (show IntKind.i64.wrap (-1) = -1 from rfl), hF, F])))
theorem c13 {a0 : PSt} {gha0 : PG} {pa0 : Nat} {r : List Int} (hS : Hv H (poolI pa0 gha0 a0 :: L)) (hg : g13 n a0 = some r) (hK : ∀ (H' : AHeap), Hv H' (poolI pa0 gha0 a0 :: L) → K (.dl 1 (List.map (AV.int .i64) r) .none) H') :
  ACall Try.prog B w0 13 [.ptr pa0 0] H K := by
 obtain rfl := Option.some.inj hg
 refine ACall.retF ?_
 obtain ⟨hI, hS⟩ := hS.opn
 simp only [poolL, List.cons_append] at hS
 refine ACall.enterK Try.f13 Try.func13 (by kernel_rfl) rfl (eawp_sound noY_sound _ _ _ _ ?_)
 have hF := True.intro
 have F := hS.facts
 have h0 := True.intro
 repeat' (first | ((with_reducible refine atEany ?_); first | refine pSeq rfl ?_ | refine pBlk rfl ?_ | refine pLoop rfl ?_ | refine pRange rfl ?_ | refine pDraw rfl ?_) | ((first
  | (clear h0)
  | ((with_reducible refine atGBr ?_); (refine Br.go2 (fun h => ?_) (fun h => ?_)) <;> replace hF := And.intro h hF)
  | ((with_reducible refine atGbr ?_); (refine branch_go2 (fun h => ?_) (fun h => ?_)) <;> replace hF := And.intro h hF)
  | ((with_reducible refine atEany ?_); first | refine pReg rfl ?_ | refine pCond rfl ?_ | refine pRet rfl ?_ | refine pExit rfl ?_ | refine pSkip rfl ?_)
  | ((with_reducible refine atAlloc2 31 3 ?_); refine alloc_go ty31 rfl rfl hS ?_; intro o3 H hS; simp only [AV.cells] at hS)
  | ((with_reducible refine atF 47 ?_); refine c47 hS ?_; intro pC H hS)
  | ((with_reducible refine atRange ?_); refine AWP.rangeGo6 (fun _ e => by cases e) rfl hS ?_; intro lp H lpx KE hl0 hr he0 he1 he2 hS; refine c78 (X := [.obj lp (lpx 0), .obj o3 (.cells [.dl 0 [] .full]), .own 1 (.dl 0 [] .full) (List.map (AV.int .i64) [])]) (R := .own 1 gha0.av (List.map AV.bool a0.alive) :: (jobsL gha0.js a0.jobs ++ L)) (Z := fun i X => ∃ v, X = [.obj lp (lpx 0), .obj o3 (.cells [v]), .own 1 v (List.map (AV.int .i64) (((a0.jobs.take i).filter fun j => j.ans.isNone).map (·.id)))]) hI (hS.need0 (by simp only [List.cons_append, List.nil_append, List.map_nil]; (repeat first | exact mD | (apply mT; (· (repeat first | exact pH | apply pT))) | (apply mV; (· assumption); (· (repeat first | exact pH | apply pT)); (· first | exact (by simp) | exact SzC.flat (fun _ => rfl) _)) | (apply mO; (· (repeat first | exact pH | apply pT)); (· first | exact (by simp) | exact SzC.flat (fun _ => rfl) _)) | apply mF | apply mE | apply mX))) ⟨_, rfl⟩ ?_ ?_ <;> first | (rintro i h1 h2 H X K' ⟨v, rfl⟩ hS hK1 hK2; simp only [List.cons_append, List.nil_append] at hS; refine hr _ _ _ _ (hS.pull (by (repeat first | exact pH | apply pT); fail_if_success refine ?_)) rfl ?_; intro Qa hqa; refine eawp_sound noY_sound _ _ _ _ ?_) | (rintro H X ⟨v, rfl⟩ hS; simp only [List.cons_append, List.nil_append] at hS; refine he0 _ _ _ (hS.pull (by (repeat first | exact pH | apply pT); fail_if_success refine ?_)) ?_; intro H hS))
  | (refine hqa _ _ _ (hS.pull (by (repeat first | exact pH | apply pT); fail_if_success refine ?_)) ?_; intro H lp2 Qr hlp hS hq1 hq2 hq3; replace hS := Hv.foc (A := [_, _, _, _, _, _, _]) h1 h2 hS; ((generalize hgj : gha0.js[i] = gj at *; generalize hjj : a0.jobs[i] = j at *; rcases j with ⟨jid0, jbody, jtries, _ | jr⟩ <;> simp only [jobL, jobC, ansV, ansI, List.cons_append, List.nil_append] at hS) <;> refine eawp_sound noY_sound _ _ _ _ ?_))
  | ((with_reducible refine atAppE2 20 ?_); refine appO_own1 (enc := AV.int .i64) (fun _ => rfl) apt31 (src1_AVinti64 ty31 rfl) (by (repeat first | exact mD | (apply mT; (· (repeat first | exact pH | apply pT))) | (apply mV; (· assumption); (· (repeat first | exact pH | apply pT)); (· first | exact (by simp) | exact SzC.flat (fun _ => rfl) _)) | (apply mO; (· (repeat first | exact pH | apply pT)); (· first | exact (by simp) | exact SzC.flat (fun _ => rfl) _)) | apply mF | apply mE | apply mX); fail_if_success refine ?_) hS (by have := ids_len (js := a0.jobs) (i := i); have := hI.count; simp only [List.length_cons, List.length_nil]; omega) ?_; intro v1 H hS)
  | ((with_reducible refine atSto 31 ?_); refine sto_own ty31 (by (repeat first | exact pH | apply pT); fail_if_success refine ?_) (by (repeat first | exact pH | apply pT); fail_if_success refine ?_) hS (by rfl) (by exact Nat.le_of_ble_eq_true rfl) ?_; intro H hS; simp only [putA_nil, putA_0, putA_s, List.cons_append, List.nil_append, AV.cells, List.length_cons, List.length_nil, List.drop_succ_cons, List.drop_zero, Nat.reduceAdd] at hS)
  | (refine hq1 _ _ _ (hS.pull (by (repeat first | exact pH | apply pT); fail_if_success refine ?_)) ?_; intro H hS; have h9 := hS.need0 (n := jobL gj ⟨jid0, jbody, jtries, none⟩ ++ ([.obj lp (lpx 0), .obj pC _, .obj pa0 _, mpI _ _ _, .obj o3 (.cells [v1]), .own 1 v1 _, .own 1 gha0.av _] ++ (jrest gha0.js a0.jobs i ++ L))) (by simp only [jobL, jobC, ansV, ansI, List.cons_append, List.nil_append]; (repeat first | exact mD | (apply mT; (· (repeat first | exact pH | apply pT))) | (apply mV; (· assumption); (· (repeat first | exact pH | apply pT)); (· first | exact (by simp) | exact SzC.flat (fun _ => rfl) _)) | (apply mO; (· (repeat first | exact pH | apply pT)); (· first | exact (by simp) | exact SzC.flat (fun _ => rfl) _)) | apply mF | apply mE | apply mX)); have h8 := refoc h1 h2 hgj hjj h9; refine hK1 _ [_, .obj o3 (.cells [v1]), .own 1 v1 _] ⟨v1, rfl⟩ ?_; rw [ids_none h2 hjj]; simp only [List.cons_append, List.nil_append]; exact Hv.need0 h8 (by (repeat first | exact mD | (apply mT; (· (repeat first | exact pH | apply pT))) | (apply mV; (· assumption); (· (repeat first | exact pH | apply pT)); (· first | exact (by simp) | exact SzC.flat (fun _ => rfl) _)) | (apply mO; (· (repeat first | exact pH | apply pT)); (· first | exact (by simp) | exact SzC.flat (fun _ => rfl) _)) | apply mF | apply mE | apply mX)))
  | (refine hq1 _ _ _ (hS.pull (by (repeat first | exact pH | apply pT); fail_if_success refine ?_)) ?_; intro H hS; have h9 := hS.need0 (n := jobL gj ⟨jid0, jbody, jtries, some jr⟩ ++ ([.obj lp (lpx 0), .obj pC _, .obj pa0 _, mpI _ _ _, .obj o3 (.cells [v]), .own 1 v _, .own 1 gha0.av _] ++ (jrest gha0.js a0.jobs i ++ L))) (by simp only [jobL, jobC, ansV, ansI, List.cons_append, List.nil_append]; (repeat first | exact mD | (apply mT; (· (repeat first | exact pH | apply pT))) | (apply mV; (· assumption); (· (repeat first | exact pH | apply pT)); (· first | exact (by simp) | exact SzC.flat (fun _ => rfl) _)) | (apply mO; (· (repeat first | exact pH | apply pT)); (· first | exact (by simp) | exact SzC.flat (fun _ => rfl) _)) | apply mF | apply mE | apply mX)); have h8 := refoc h1 h2 hgj hjj h9; refine hK1 _ [_, .obj o3 (.cells [v]), .own 1 v _] ⟨v, rfl⟩ ?_; rw [ids_some h2 hjj]; simp only [List.cons_append, List.nil_append]; exact Hv.need0 h8 (by (repeat first | exact mD | (apply mT; (· (repeat first | exact pH | apply pT))) | (apply mV; (· assumption); (· (repeat first | exact pH | apply pT)); (· first | exact (by simp) | exact SzC.flat (fun _ => rfl) _)) | (apply mO; (· (repeat first | exact pH | apply pT)); (· first | exact (by simp) | exact SzC.flat (fun _ => rfl) _)) | apply mF | apply mE | apply mX)))
  | ((with_reducible refine atRetF ?_); refine RetF.own1 (enc := AV.int .i64) (fun _ => rfl) (by (repeat first | exact mD | (apply mT; (· (repeat first | exact pH | apply pT))) | (apply mV; (· assumption); (· (repeat first | exact pH | apply pT)); (· first | exact (by simp) | exact SzC.flat (fun _ => rfl) _)) | (apply mO; (· (repeat first | exact pH | apply pT)); (· first | exact (by simp) | exact SzC.flat (fun _ => rfl) _)) | apply mF | apply mE | apply mX)) Rep.here hS ?_; intro H hS; rw [List.take_length]; exact .ret (RetK.here (hK H (Hv.cls (A := poolL pa0 gha0 a0) hI (hS.need0 (by simp only [poolL, List.cons_append]; (repeat first | exact mD | (apply mT; (· (repeat first | exact pH | apply pT))) | (apply mV; (· assumption); (· (repeat first | exact pH | apply pT)); (· first | exact (by simp) | exact SzC.flat (fun _ => rfl) _)) | (apply mO; (· (repeat first | exact pH | apply pT)); (· first | exact (by simp) | exact SzC.flat (fun _ => rfl) _)) | apply mF | apply mE | apply mX)))))))
  | ((with_reducible refine atDraw 5 ?_); refine AWP.draw noY_sound [[], [], [1], [1, 2], [1, 2, 3], [1, 2, 3, 4], [1, 2, 3, 4, 5], [0, 1, 2, 3, 4, 5, 6], [0, 1, 2, 3, 4, 5, 6, 7]] [⟨0, false, []⟩, ⟨1, false, []⟩, ⟨2, false, []⟩, ⟨3, false, []⟩, ⟨4, false, []⟩, ⟨5, false, []⟩, ⟨6, false, []⟩, ⟨7, true, []⟩, ⟨8, true, []⟩] [0, 1, 2, 3, 4, 5, 6, 7, 8] [0, 1, 2, 3, 4, 5, 6, 7, 8] (by kernel_rfl) ?_)) <;> (replace F := hS.facts; (try simp only [Facts_obj, Facts_tl, Facts_own, Facts_pool, Facts_mp] at F); try simp only [EVA, reduceIte, reduceCtorEq, Nat.reduceEqDiff, Nat.reduceLT, Nat.reduceLeDiff, Int.reduceEq, Int.reduceLT, Int.reduceLE, Nat.reduceMul, Int.reduceToNat, Nat.reduceAdd, Int.reduceAdd, Int.reduceSub, Int.reduceMul, Int.reduceNeg, Try.ntmps13, (show Try.f13.results.toList = [.tmp 2] from rfl), (show IntKind.i64.wrap 1 = 1 from rfl), (show IntKind.i64.wrap (-1) = -1 from rfl), Int.reduceEq, hF, F])))
end
end Go.Av
end
