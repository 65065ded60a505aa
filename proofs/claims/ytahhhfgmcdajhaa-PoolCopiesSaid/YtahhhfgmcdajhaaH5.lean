/- walks by hand, part 5 -/
import Derived.Test.YtahhhfgmcdajhaaH4
set_option autoImplicit false
set_option linter.unusedSimpArgs false
set_option linter.unusedVariables false
set_option linter.unnecessarySimpa false
section
set_option linter.unusedSimpArgs false
set_option linter.unusedVariables false
set_option linter.unnecessarySimpa false
set_option maxHeartbeats 8000000
set_option maxRecDepth 10000
namespace Go.Av
open Go.RowKit Go.Proofs
theorem nil_own {H : AHeap} {L L' : List Item} {v : AV} {sz : Nat} {cs : List AV} {ne : Bool} {K : AV → AHeap → Prop} (hp : Pull L (.own sz v cs) L') (hS : Hv H L) (h1 : cs = [] → K (.bool true) H ∧ K (.bool false) H) (h2 : K (.bool ne) H) : NilE ne H K v := by
 rcases (hS.pull hp).each _ (List.mem_cons_self ..) with ⟨s, rfl, hcs⟩ | ⟨id, len, rfl, _, _⟩
 ·exact ⟨fun _ => h1 hcs, fun h => absurd rfl h⟩
 ·exact h2
section
variable {B : Nat} {w0 : World} {n : Nat} {H : AHeap} {L L' R Bs : List Item} {K : AV → AHeap → Prop}
/-- the clone of a list of one's own -/
theorem c58o {l : List Bool} {v : AV} (hp : Pull L (.own 1 v (List.map AV.bool l)) L') (hS : Hv H L) (hl : l.length ≤ 140737488355328) (hK : ∀ (v' : AV) (H' : AHeap), Hv H' (.own 1 v' (List.map AV.bool l) :: L) → K v' H') :
  ACall Try.prog B w0 58 [v] H K := by
 refine ACall.ret ?_
 have hvw : ViewOf Try.prog H 1 v (List.map AV.bool l) := own_view (enc := AV.bool) (OneC.toSz (fun _ => rfl)) (by decide) (by rw [flat_one AV.bool (fun _ => rfl)]; exact hp) hS
 refine ACall.enterK Try.f58 Try.func58 (by kernel_rfl) rfl (eawp_sound noY_sound _ _ _ _ ?_)
 have hF := True.intro
 have F := hS.facts
 have h0 := True.intro
 repeat' (first | ((with_reducible refine atEany ?_); first | refine pSeq rfl ?_ | refine pBlk rfl ?_ | refine pLoop rfl ?_ | refine pRange rfl ?_ | refine pDraw rfl ?_) | ((first
  | (clear h0)
  | ((with_reducible refine atGBr ?_); (refine Br.go2 (fun h => ?_) (fun h => ?_)) <;> replace hF := And.intro h hF)
  | ((with_reducible refine atGbr ?_); (refine branch_go2 (fun h => ?_) (fun h => ?_)) <;> replace hF := And.intro h hF)
  | ((with_reducible refine atEany ?_); first | refine pReg rfl ?_ | refine pCond rfl ?_ | refine pRet rfl ?_ | refine pExit rfl ?_ | refine pSkip rfl ?_)
  | (refine nil_own hp hS (fun h => ⟨?_, ?_⟩) ?_)
  | (refine ⟨(by simp only [isSliceT, ty86]), ?_⟩; refine nil_own hp hS (fun h => ⟨?_, ?_⟩) ?_)
  | ((with_reducible refine atAppE2 7 ?_); refine appO_nilH1 (enc := AV.bool) (fun _ => rfl) apt86 (hvw.src ty86 rfl) hS hl ?_; intro v1 H hS)
  | ((with_reducible refine atRet ?_); refine RetK.here ?_; first | exact hK _ H hS | (have h0 : l = [] := List.map_eq_nil_iff.1 h; subst h0; exact hK _ H (hS.free (x := .own 1 (.dl 0 [] .full) []) (.inl ⟨_, rfl, rfl⟩) rfl)))) <;> (replace F := hS.facts; (try simp only [Facts_obj, Facts_tl, Facts_own, Facts_pool, Facts_mp] at F); try simp only [EVA, reduceIte, reduceCtorEq, Nat.reduceEqDiff, Nat.reduceLT, Nat.reduceLeDiff, Int.reduceEq, Int.reduceLT, Int.reduceLE, Nat.reduceMul, Int.reduceToNat, Nat.reduceAdd, Int.reduceAdd, Int.reduceSub, Int.reduceMul, Int.reduceNeg, Try.ntmps58, (show Try.f58.results.toList = [.tmp 2] from rfl), (show IntKind.i64.wrap 1 = 1 from rfl), (show IntKind.i64.wrap (-1) = -1 from rfl), lateK_eq, hF, F])))

theorem own_srcT {y : AV} {ys : List PTry} (hp : Pull L (.own 3 y (flat (List.map encTry ys))) L') (hS : Hv H L) : SrcP Try.prog H 3 92 y (List.map encTry ys) := by
 rcases (hS.pull hp).each _ (List.mem_cons_self ..) with ⟨s, rfl, hcs⟩ | ⟨id, len, rfl, hl2, hid⟩
 ·have := flat_map_nil szT (by decide) hcs
  subst this
  exact .inl (by simp [srcA, ty92])
 ·obtain rfl := flat_map_len szT (by decide) hl2
  refine .inr ⟨_, _, id, 0, _, ty92, rfl, by rw [List.length_map], hid, ?_, ?_, ?_⟩
  ·rw [List.length_map, hl2]; omega
  ·intro x hx
   obtain ⟨y, _, rfl⟩ := List.mem_map.1 hx
   rfl
  ·rw [List.length_map, List.drop_zero, List.take_of_length_le (by rw [hl2]; exact Nat.le_refl _)]
theorem one_try : ∀ (ys : List PTry) (v : AV), v ∈ flat (List.map encTry ys) → AV.one v = true
 | [], v, h => by simp [flat] at h
 | y :: ys, v, h => by
  rw [List.map_cons, flat_cons] at h
  rcases List.mem_append.1 h with h | h
  ·simp [encTry, AV.cells] at h
   rcases h with rfl | rfl | rfl <;> rfl
  ·exact one_try ys v h
theorem cpy_t {x y : AV} {l ys : List PTry} {L2 : List Item} (hp : Pull L (.own 3 x (flat (List.map encTry l))) L') (hq : Pull L (.own 3 y (flat (List.map encTry ys))) L2) (hS : Hv H L) (he : l.length = ys.length)
  (hK : ∀ H', Hv H' (.own 3 x (flat (List.map encTry ys)) :: L') → K (.int .i64 (ys.length : Int)) H') : CpyQ Try.prog 92 92 x y H K := by
 have hs := hS.pull hp
 refine ⟨_, _, _, _, _, _, ty92, rfl, ty101, ty92, rfl, own_srcT hq hS, ?_, ?_⟩
 ·exact one_try ys
 ·rcases hs.each _ (List.mem_cons_self ..) with ⟨s, rfl, hcs⟩ | ⟨id, len, rfl, hl2, hid⟩
  ·have := flat_map_nil szT (by decide) hcs
   subst this
   have h0 : ys = [] := List.eq_nil_of_length_eq_zero (by simpa using he.symm)
   subst h0
   exact .inl ⟨_, _, rfl, hK H hs⟩
  ·obtain rfl := flat_map_len szT (by decide) hl2
   refine .inr ⟨id, 0, _, _, rfl, hid, by rw [hl2]; show 0 + l.length * 3 ≤ l.length * 3; omega, ?_⟩
   have hm : min (List.map encTry ys).length l.length = ys.length := by rw [List.length_map, he]; omega
   rw [hm]
   refine hK _ ?_
   have hf : (flat (List.map encTry ys)).length = ys.length * 3 := szT.flat ys
   have e : putA (flat (List.map encTry l)) 0 (flat (List.take ys.length (List.map encTry ys))) = flat (List.map encTry ys) := by
    rw [List.take_of_length_le (by simp)]
    unfold putA
    rw [List.take_zero, List.nil_append, List.drop_of_length_le (by rw [hl2, hf, he]; omega), List.append_nil]
   rw [e]
   exact hs.set (i := id) rfl _ (y := .own 3 (.sl 3 id 0 l.length) (flat (List.map encTry ys))) (.inr ⟨_, _, rfl, by rw [hf, he], get_set_self _ hid⟩) (fun j h => by cases h; rfl)
/-- what was copied so far -/
structure CInv (g : PG) (s : PSt) (seen : List Nat) (gC : List JG) (jC : List PJob) (ms2 : List MA) : Prop where
 len : gC.length = jC.length
 sorted : jC.Pairwise (fun a b => a.id < b.id)
 mem : ∀ j, j ∈ jC ↔ j ∈ s.jobs ∧ j.id ∈ kL g.ms seen
 perm : ms2.Perm (List.zipWith keyE gC jC)
 al : ∀ e, e ∈ aL gC jC → e ∈ aL g.js s.jobs
theorem CInv.nil {g : PG} {s : PSt} : CInv g s [] [] [] [] := ⟨rfl, .nil, fun j => by simp [kL], .refl _, fun e h => by cases h⟩
theorem CInv.new {g : PG} {s : PSt} {seen : List Nat} {gC : List JG} {jC : List PJob} {ms2 : List MA} (h : CInv g s seen gC jC ms2) {id : Int} (hn : id ∉ kL g.ms seen) : (∀ x, x ∈ jC → x.id ≠ id) ∧ lkA ms2 [id] = none := by
 have h1 : ∀ x, x ∈ jC → x.id ≠ id := fun x hx e => hn (e ▸ ((h.mem x).1 hx).2)
 refine ⟨h1, ?_⟩
 unfold lkA
 cases hf : ms2.find? (fun e => e.1 == [id]) with
 | none => rfl
 | some e =>
  exfalso
  have hm := h.perm.mem_iff.1 (List.mem_of_find?_eq_some hf)
  obtain ⟨i, hi, rfl⟩ := List.mem_iff_getElem.1 hm
  rw [List.length_zipWith] at hi
  have := List.find?_some hf
  rw [List.getElem_zipWith] at this
  simp [keyE] at this
  exact h1 _ (List.getElem_mem _) this
theorem CInv.add {g : PG} {s : PSt} {seen : List Nat} {gC : List JG} {jC : List PJob} {ms2 : List MA} (h : CInv g s seen gC jC ms2) {i k : Nat} (h1 : k < g.js.length) (h2 : k < s.jobs.length) {G : JG} (hr : G.rid = g.js[k].rid) (hn : s.jobs[k].id ∉ kL g.ms seen) (hk : kL g.ms (seen ++ [i]) = kL g.ms seen ++ [s.jobs[k].id]) (hs : s.jobs.Pairwise (fun a b => a.id < b.id)) :
  CInv g s (seen ++ [i]) (gIns G s.jobs[k] gC jC) (pIns s.jobs[k] jC) (ms2 ++ [keyE G s.jobs[k]]) := by
 obtain ⟨n1, _⟩ := h.new hn
 refine ⟨by rw [gIns_len _ _ _ _ h.len, pIns_len, h.len], pIns_sorted h.sorted n1, fun j => ?_, ?_, fun e he => ?_⟩
 ·rw [mem_pIns, hk, List.mem_append, List.mem_singleton, h.mem]
  constructor
  ·rintro (rfl | ⟨a, b⟩)
   ·exact ⟨List.getElem_mem h2, .inr rfl⟩
   ·exact ⟨a, .inl b⟩
  ·rintro ⟨a, b | b⟩
   ·exact .inr ⟨a, b⟩
   ·left
    obtain ⟨q, hq, rfl⟩ := List.mem_iff_getElem.1 a
    have := ids_inj hs hq h2 b
    subst this; rfl
 ·refine (List.perm_append_comm (l₁ := ms2)).trans ?_
  exact (h.perm.cons _).trans (zip_ins keyE G s.jobs[k] gC jC h.len).symm
 ·have := (zip_ins (fun (g : JG) (j : PJob) => (g.rid, j.id, j.ans)) G s.jobs[k] gC jC h.len).mem_iff.1 he
  rcases List.mem_cons.1 this with rfl | this
  ·exact mem_aL.2 ⟨k, h1, h2, by rw [hr]⟩
  ·exact h.al e this
theorem jobs0_ins {gs : List JG} {js : List PJob} (h : gs.length = js.length) (g : JG) (j : PJob) : (jobL0 g j ++ jobs0L gs js).Perm (jobs0L (gIns g j gs js) (pIns j js)) :=
 ((zip_ins jobL0 g j gs js h).flatten).symm
theorem sorted_eq : ∀ {a b : List PJob}, a.Pairwise (fun x y => x.id < y.id) → b.Pairwise (fun x y => x.id < y.id) → (∀ j, j ∈ a ↔ j ∈ b) → a = b
 | [], [], _, _, _ => rfl
 | [], y :: b, _, _, h => by have := (h y).2 (List.mem_cons_self ..); cases this
 | x :: a, [], _, _, h => by have := (h x).1 (List.mem_cons_self ..); cases this
 | x :: a, y :: b, h1, h2, h => by
  have p1 := List.pairwise_cons.1 h1
  have p2 := List.pairwise_cons.1 h2
  have e : x = y := by
   rcases List.mem_cons.1 ((h x).1 (List.mem_cons_self ..)) with e | e
   ·exact e
   ·have q1 := p2.1 x e
    rcases List.mem_cons.1 ((h y).2 (List.mem_cons_self ..)) with e' | e'
    ·exact e'.symm
    ·have q2 := p1.1 y e'; omega
  subst e
  rw [sorted_eq p1.2 p2.2 fun j => ?_]
  constructor
  ·intro hj
   rcases List.mem_cons.1 ((h j).1 (List.mem_cons_of_mem _ hj)) with e | e
   ·subst e; have := p1.1 j hj; omega
   ·exact e
  ·intro hj
   rcases List.mem_cons.1 ((h j).2 (List.mem_cons_of_mem _ hj)) with e | e
   ·subst e; have := p2.1 j hj; omega
   ·exact e
theorem CInv.all {g : PG} {s : PSt} {seen : List Nat} {gC : List JG} {jC : List PJob} {ms2 : List MA} (h : CInv g s seen gC jC ms2) (hI : PInv g s) (ha : ∀ i, i < g.ms.length → i ∈ seen) : jC = s.jobs := by
 refine sorted_eq h.sorted hI.sorted fun j => ?_
 rw [h.mem]
 refine ⟨fun x => x.1, fun hj => ⟨hj, ?_⟩⟩
 have : j.id ∈ g.ms.map keyI := hI.keys.mem_iff.2 (List.mem_map.2 ⟨j, hj, rfl⟩)
 obtain ⟨e, he, q⟩ := List.mem_map.1 this
 obtain ⟨i, hi, rfl⟩ := List.mem_iff_getElem.1 he
 exact List.mem_map.2 ⟨i, ha i hi, by rw [← q]; simp [List.getD_eq_getElem?_getD, hi]⟩
theorem two_new {H : AHeap} {L : List Item} {p q : Nat} {g : PG} {s : PSt} {m2 : Nat} {v1 : AV} {gC : List JG} {ms2 : List MA} {seen : List Nat} (hI : PInv g s) (hc : CInv g s seen gC s.jobs ms2)
  (h : Hv H (.obj p (.cells [g.av, .int .i64 s.timeout, .int .i64 s.tick, .map (some g.m)]) :: .own 1 g.av (List.map AV.bool s.alive) :: mpI g.m .i g.ms :: .obj q (.cells [v1, .int .i64 s.timeout, .int .i64 s.tick, .map (some m2)]) :: .own 1 v1 (List.map AV.bool s.alive) :: mpI m2 .i ms2 :: (jobsL g.js s.jobs ++ (jobs0L gC s.jobs ++ L)))) :
  Hv H (twoI q s p ⟨ansT g.js s.jobs, g, ⟨m2, v1, gC, ms2⟩⟩ s :: L) := by
 refine Hv.cls (A := twoL q s p ⟨ansT g.js s.jobs, g, ⟨m2, v1, gC, ms2⟩⟩ s) ⟨hI, ⟨hc.len, hc.perm, hI.sorted, hI.body, hI.tries, hI.count⟩, ansT_nodup hI.sorted, fun e he => he, fun e he => ?_⟩ (h.perm ?_)
 ·obtain ⟨x, y, z⟩ := e
  exact mem_ansT.2 (hc.al _ (mem_ansT.1 he))
 ·have e0 : (.obj p (.cells [g.av, .int .i64 s.timeout, .int .i64 s.tick, .map (some g.m)]) :: .own 1 g.av (List.map AV.bool s.alive) :: mpI g.m .i g.ms :: .obj q (.cells [v1, .int .i64 s.timeout, .int .i64 s.tick, .map (some m2)]) :: .own 1 v1 (List.map AV.bool s.alive) :: mpI m2 .i ms2 :: (jobsL g.js s.jobs ++ (jobs0L gC s.jobs ++ L)) : List Item).Perm (poolL p g s ++ (.obj q (.cells [v1, .int .i64 s.timeout, .int .i64 s.tick, .map (some m2)]) :: .own 1 v1 (List.map AV.bool s.alive) :: mpI m2 .i ms2 :: (jobs0L gC s.jobs ++ L))) :=
   .cons _ (.cons _ (.cons _ (perm_mid (A := [_, _, _]) (J := jobsL g.js s.jobs) (X := jobs0L gC s.jobs ++ L))))
  refine e0.trans (((pool_split p g s).append_right _).trans ?_)
  have e2 : (twoL q s p ⟨ansT g.js s.jobs, g, ⟨m2, v1, gC, ms2⟩⟩ s ++ L) = poolL0 p g s ++ (poolL0 q ⟨m2, v1, gC, ms2⟩ s ++ ((ansT g.js s.jobs).map objA ++ L)) := by simp only [twoL, List.append_assoc]
  rw [e2, List.append_assoc]
  refine List.Perm.append_left _ ?_
  have e3 : (.obj q (.cells [v1, .int .i64 s.timeout, .int .i64 s.tick, .map (some m2)]) :: .own 1 v1 (List.map AV.bool s.alive) :: mpI m2 .i ms2 :: (jobs0L gC s.jobs ++ L) : List Item) = poolL0 q ⟨m2, v1, gC, ms2⟩ s ++ L := rfl
  rw [e3]
  exact perm_mid

theorem copy_perm {H : AHeap} {A X L : List Item} {gC : List JG} {jC : List PJob} (hl : gC.length = jC.length) {g : JG} {j : PJob} (h : Hv H (A ++ jobL0 g j ++ (X ++ (jobs0L gC jC ++ L)))) : Hv H (A ++ (X ++ (jobs0L (gIns g j gC jC) (pIns j jC) ++ L))) := by
 rw [List.append_assoc] at h
 refine h.perm (List.Perm.append_left _ (perm_mid.trans (List.Perm.append_left _ ?_)))
 rw [← List.append_assoc]
 exact (jobs0_ins hl g j).append_right L
theorem okNp : AV.one .nilp = true := rfl
theorem okPt (a b : Nat) : AV.one (.ptr a b) = true := rfl
theorem okMp (m : Nat) : AV.one (.map (some m)) = true := rfl
theorem c29k {a0 : PSt} {gha0 : PG} {pa0 : Nat} (hS : Hv H (poolI pa0 gha0 a0 :: L)) (ha : a0.alive.length ≤ 1000) (hK : ∀ (G : TG) (q : Nat) (H' : AHeap), Hv H' (twoI q a0 pa0 G a0 :: L) → K (.ptr q 0) H') :
  ACall Try.prog B w0 29 [.ptr pa0 0] H K := by
 refine ACall.ret ?_
 have hL1 := True.intro
 obtain ⟨hI, hS⟩ := hS.opn
 simp only [poolL, List.cons_append] at hS
 refine ACall.enterK Try.f29 Try.func29 (by kernel_rfl) rfl (eawp_sound noY_sound _ _ _ _ ?_)
 have hF := True.intro
 have F := hS.facts
 have h0 := True.intro
 repeat' (first | ((with_reducible refine atEany ?_); first | refine pSeq rfl ?_ | refine pBlk rfl ?_ | refine pLoop rfl ?_ | refine pRange rfl ?_ | refine pDraw rfl ?_) | ((first
  | (clear h0)
  | ((with_reducible refine atGBr ?_); (refine Br.go2 (fun h => ?_) (fun h => ?_)) <;> replace hF := And.intro h hF)
  | ((with_reducible refine atGbr ?_); (refine branch_go2 (fun h => ?_) (fun h => ?_)) <;> replace hF := And.intro h hF)
  | ((with_reducible refine atEany ?_); first | refine pReg rfl ?_ | refine pCond rfl ?_ | refine pRet rfl ?_ | refine pExit rfl ?_ | refine pSkip rfl ?_)
  | ((with_reducible refine atAlloc2 90 3 ?_); refine alloc_go ty90 rfl rfl hS ?_; intro o3 H hS; simp only [AV.cells] at hS)
  | ((with_reducible refine atAlloc2 95 6 ?_); refine alloc_go ty95 rfl rfl hS ?_; intro o6 H hS; simp only [AV.cells] at hS)
  | ((with_reducible refine atSto 90 ?_); refine sto_go ty90 (by (repeat first | exact pH | apply pT); fail_if_success refine ?_) hS (by simp only [okCells, AV.cells, List.all_cons, List.all_nil, F, oneInt, oneSl, oneDl, oneStr, oneBool, isUndef, okMp, okNp, okPt, Bool.and_true, Bool.true_and, Bool.not_false, Bool.and_self]) (by rfl) (by exact Nat.le_of_ble_eq_true rfl) ?_; intro H hS; simp only [putA_nil, putA_0, putA_s, List.cons_append, List.nil_append, AV.cells, List.length_cons, List.length_nil, List.drop_succ_cons, List.drop_zero, Nat.reduceAdd] at hS)
  | ((with_reducible refine atSto 95 ?_); refine sto_go ty95 (by (repeat first | exact pH | apply pT); fail_if_success refine ?_) hS (by simp only [okCells, AV.cells, List.all_cons, List.all_nil, F, oneInt, oneSl, oneDl, oneStr, oneBool, isUndef, okMp, okNp, okPt, Bool.and_true, Bool.true_and, Bool.not_false, Bool.and_self]) (by rfl) (by exact Nat.le_of_ble_eq_true rfl) ?_; intro H hS; simp only [putA_nil, putA_0, putA_s, List.cons_append, List.nil_append, AV.cells, List.length_cons, List.length_nil, List.drop_succ_cons, List.drop_zero, Nat.reduceAdd] at hS)
  | ((with_reducible refine atSto 88 ?_); refine sto_go ty88 (by (repeat first | exact pH | apply pT); fail_if_success refine ?_) hS (by simp only [okCells, AV.cells, List.all_cons, List.all_nil, F, oneInt, oneSl, oneDl, oneStr, oneBool, isUndef, okMp, okNp, okPt, Bool.and_true, Bool.true_and, Bool.not_false, Bool.and_self]) (by rfl) (by exact Nat.le_of_ble_eq_true rfl) ?_; intro H hS; simp only [putA_nil, putA_0, putA_s, List.cons_append, List.nil_append, AV.cells, List.length_cons, List.length_nil, List.drop_succ_cons, List.drop_zero, Nat.reduceAdd] at hS)
  | ((with_reducible refine atF 58 ?_); refine c58o (by (repeat first | exact pH | apply pT); fail_if_success refine ?_) hS (by omega) ?_; intro v1 H hS)
  | ((with_reducible refine atSto 86 ?_); refine sto_own ty86 (by (repeat first | exact pH | apply pT); fail_if_success refine ?_) (by (repeat first | exact pH | apply pT); fail_if_success refine ?_) hS (by rfl) (by exact Nat.le_of_ble_eq_true rfl) ?_; intro H hS; simp only [putA_nil, putA_0, putA_s, List.cons_append, List.nil_append, AV.cells, List.length_cons, List.length_nil, List.drop_succ_cons, List.drop_zero, Nat.reduceAdd] at hS)
  | (refine make_mp .i hS ?_; intro m2 H hS)
  | (refine ran_mp und88 (by (repeat first | exact pH | apply pT); fail_if_success refine ?_) hS ?_; intro it H hS)
  | ((with_reducible refine atLoop ?_); clear hL1; refine AWP.loopI (σ := List Nat) [] (fun _ => [.k, .d, .d, .k, .d, .d, .d, .d, .d, .d, .d, .d, .d, .d, .d, .d, .d, .d, .d, .d, .d, .d, .k, .d, .d, .d, .d, .d, .d, .d, .d, .d, .d, .d, .d, .d, .d, .d, .d, .d, .d, .d, .d, .d, .d, .d, .d, .d]) (fun seen H => seen.Nodup ∧ (∀ i, i ∈ seen → i < gha0.ms.length) ∧ ∃ gC jC ms2, CInv gha0 a0 seen gC jC ms2 ∧ Hv H (rgI gha0.m it .i gha0.ms seen :: .obj pa0 (.cells [gha0.av, .int .i64 a0.timeout, .int .i64 a0.tick, .map (some gha0.m)]) :: .own 1 gha0.av (List.map AV.bool a0.alive) :: .obj o3 (.cells [v1, .int .i64 a0.timeout, .int .i64 a0.tick, .map (some m2)]) :: .own 1 v1 (List.map AV.bool a0.alive) :: mpI m2 .i ms2 :: (jobsL gha0.js a0.jobs ++ (jobs0L gC jC ++ L)))) (fun s => gha0.ms.length - s.length) (by (repeat first | exact sZ | with_reducible apply sD | with_reducible apply sK | apply sP | apply sF | apply sN | apply sT)) ⟨List.nodup_nil, by simp, [], [], [], CInv.nil, hS.need0 (by simp only [jobs0L, List.zipWith_nil_left, List.flatten_nil, List.nil_append]; (repeat first | exact mD | (apply mT; (· (repeat first | exact pH | apply pT))) | (apply mV; (· assumption); (· (repeat first | exact pH | apply pT)); (· first | exact (by simp) | exact SzC.flat (fun _ => rfl) _)) | (apply mO; (· (repeat first | exact pH | apply pT)); (· first | exact (by simp) | exact SzC.flat (fun _ => rfl) _)) | apply mF | apply mE | apply mX))⟩ (fun seen H hJ => ?_); obtain ⟨hnd, hbd, gC, jC, ms2, hC, hS⟩ := hJ; refine eawp_sound noY_sound _ _ _ _ ?_; simp only [applyS_d, applyS_k, applyS_p, applyS_nil])
  | (refine nxt_rg (by (repeat first | exact pH | apply pT); fail_if_success refine ?_) hS (fun i hi hns H hS => ?_) (fun hall hS => ?_))
  | (refine cur_rg (by (repeat first | exact pH | apply pT); fail_if_success refine ?_) hS hi ?_; obtain ⟨k, h1, h2, ek⟩ := hI.mem.1 (List.getElem_mem hi); have hn9 : a0.jobs[k].id ∉ kL gha0.ms seen := (by have := key_new hI.nd hbd hi hns; rw [ek] at this; exact this); have htr := hI.tries _ (List.getElem_mem h2); rw [ek]; replace hS := Hv.foc (A := [_, _, _, _, _, _]) h1 h2 hS; generalize hgj : gha0.js[k] = gj at *; generalize hjj : a0.jobs[k] = j at *; rcases j with ⟨jid0, jbody, jtries, _ | jr⟩ <;> simp only [keyE, jobL, jobC, ansV, ansI, List.cons_append, List.nil_append] at hS ⊢)
  | ((with_reducible refine atLen ?_); first | refine len_own ty92 rfl szT (by decide) (by (repeat first | exact pH | apply pT); fail_if_success refine ?_) hS ?_ | refine len_v ty92 rfl (by assumption) ?_)
  | ((with_reducible refine atMake2 36 ?_); refine makeO (enc := encTry) (sz := 3) (d := ⟨0, 0, false⟩) (N := 5864062014805) szT (by decide) ty92 rfl ty101 rfl rfl rfl (by rfl) (by decide) (by decide) hS (by simp at htr ⊢; omega) ?_; intro w36 H hS)
  | ((with_reducible refine atSto 92 ?_); refine sto_own (v := w36) ty92 (by (repeat first | exact pH | apply pT); fail_if_success refine ?_) (by (repeat first | exact pH | apply pT); fail_if_success refine ?_) hS (by rfl) (by exact Nat.le_of_ble_eq_true rfl) ?_; intro H hS; simp only [putA_nil, putA_0, putA_s, List.cons_append, List.nil_append, AV.cells, List.length_cons, List.length_nil, List.drop_succ_cons, List.drop_zero, Nat.reduceAdd] at hS)
  | (refine cpy_t (x := w36) (y := gj.tv) (by (repeat first | exact pH | apply pT); fail_if_success refine ?_) (by (repeat first | exact pH | apply pT); fail_if_success refine ?_) hS (by simp; fail_if_success refine ?_) ?_; intro H hS)
  | (refine upd_mp (kk := .i) (key := [jid0]) mt88 (by (repeat first | exact pH | apply pT); fail_if_success refine ?_) hS rfl ?_; intro H hS)
  | ((with_reducible refine atEx ?_); have ea : jobL ⟨gj.jid, gj.tv, gj.rid⟩ ⟨jid0, jbody, jtries, none⟩ = jobL gj ⟨jid0, jbody, jtries, none⟩ := rfl; have hsl := seen_len (n := gha0.ms.length) (l := seen ++ [i]) (List.nodup_append.2 ⟨hnd, by simp, fun a ha b hb => by simp at hb; subst hb; exact fun e => hns (e ▸ ha)⟩) (fun j hj => by rcases List.mem_append.1 hj with hj | hj; exact hbd j hj; simp at hj; omega); have h9 := hS.need0 (n := jobL gj ⟨jid0, jbody, jtries, none⟩ ++ ([rgI gha0.m it .i gha0.ms (seen ++ [i]), .obj pa0 (.cells [gha0.av, .int .i64 a0.timeout, .int .i64 a0.tick, .map (some gha0.m)]), .own 1 gha0.av (List.map AV.bool a0.alive), .obj o3 (.cells [v1, .int .i64 a0.timeout, .int .i64 a0.tick, .map (some m2)]), .own 1 v1 (List.map AV.bool a0.alive), mpI m2 .i (putM ms2 [jid0] (.ptr o6 0))] ++ jobL0 ⟨o6, w36, gj.rid⟩ ⟨jid0, jbody, jtries, none⟩ ++ (jrest gha0.js a0.jobs k ++ (jobs0L gC jC ++ L)))) (by simp only [jobL, jobL0, jobC, ansV, ansI, List.cons_append, List.nil_append]; (repeat first | exact mD | (apply mT; (· (repeat first | exact pH | apply pT))) | (apply mV; (· assumption); (· (repeat first | exact pH | apply pT)); (· first | exact (by simp) | exact SzC.flat (fun _ => rfl) _)) | (apply mO; (· (repeat first | exact pH | apply pT)); (· first | exact (by simp) | exact SzC.flat (fun _ => rfl) _)) | apply mF | apply mE | apply mX)); subst hgj; have e3 : a0.jobs[k].id = jid0 := (by rw [hjj]); rw [← hjj] at h9; (try rw [hjj] at hn9); (try rw [← hjj] at hn9); have h8 := Hv.unf h1 h2 h9; rw [List.set_getElem_self, List.set_getElem_self] at h8; have hn8 := hC.new hn9; (try rw [← e3] at h8); rw [putM_new hn8.2] at h8; exact ⟨seen ++ [i], by ((repeat first | exact sZ | with_reducible apply sD | with_reducible apply sK | apply sP | apply sF | apply sN | apply sT); fail_if_success refine ?_), ⟨List.nodup_append.2 ⟨hnd, by simp, fun a ha b hb => by simp at hb; subst hb; exact fun e => hns (e ▸ ha)⟩, (fun j hj => by rcases List.mem_append.1 hj with hj | hj; exact hbd j hj; simp at hj; omega), _, _, _, hC.add (G := ⟨o6, w36, gha0.js[k].rid⟩) h1 h2 rfl hn9 (by rw [kL_add hi, ek, e3]; rfl) hI.sorted, copy_perm hC.len h8⟩, by simp at hsl ⊢; omega⟩)
  | ((with_reducible refine atEx ?_); have ea : jobL ⟨gj.jid, gj.tv, gj.rid⟩ ⟨jid0, jbody, jtries, some jr⟩ = jobL gj ⟨jid0, jbody, jtries, some jr⟩ := rfl; have hsl := seen_len (n := gha0.ms.length) (l := seen ++ [i]) (List.nodup_append.2 ⟨hnd, by simp, fun a ha b hb => by simp at hb; subst hb; exact fun e => hns (e ▸ ha)⟩) (fun j hj => by rcases List.mem_append.1 hj with hj | hj; exact hbd j hj; simp at hj; omega); have h9 := hS.need0 (n := jobL gj ⟨jid0, jbody, jtries, some jr⟩ ++ ([rgI gha0.m it .i gha0.ms (seen ++ [i]), .obj pa0 (.cells [gha0.av, .int .i64 a0.timeout, .int .i64 a0.tick, .map (some gha0.m)]), .own 1 gha0.av (List.map AV.bool a0.alive), .obj o3 (.cells [v1, .int .i64 a0.timeout, .int .i64 a0.tick, .map (some m2)]), .own 1 v1 (List.map AV.bool a0.alive), mpI m2 .i (putM ms2 [jid0] (.ptr o6 0))] ++ jobL0 ⟨o6, w36, gj.rid⟩ ⟨jid0, jbody, jtries, some jr⟩ ++ (jrest gha0.js a0.jobs k ++ (jobs0L gC jC ++ L)))) (by simp only [jobL, jobL0, jobC, ansV, ansI, List.cons_append, List.nil_append]; (repeat first | exact mD | (apply mT; (· (repeat first | exact pH | apply pT))) | (apply mV; (· assumption); (· (repeat first | exact pH | apply pT)); (· first | exact (by simp) | exact SzC.flat (fun _ => rfl) _)) | (apply mO; (· (repeat first | exact pH | apply pT)); (· first | exact (by simp) | exact SzC.flat (fun _ => rfl) _)) | apply mF | apply mE | apply mX)); subst hgj; have e3 : a0.jobs[k].id = jid0 := (by rw [hjj]); rw [← hjj] at h9; (try rw [hjj] at hn9); (try rw [← hjj] at hn9); have h8 := Hv.unf h1 h2 h9; rw [List.set_getElem_self, List.set_getElem_self] at h8; have hn8 := hC.new hn9; (try rw [← e3] at h8); rw [putM_new hn8.2] at h8; exact ⟨seen ++ [i], by ((repeat first | exact sZ | with_reducible apply sD | with_reducible apply sK | apply sP | apply sF | apply sN | apply sT); fail_if_success refine ?_), ⟨List.nodup_append.2 ⟨hnd, by simp, fun a ha b hb => by simp at hb; subst hb; exact fun e => hns (e ▸ ha)⟩, (fun j hj => by rcases List.mem_append.1 hj with hj | hj; exact hbd j hj; simp at hj; omega), _, _, _, hC.add (G := ⟨o6, w36, gha0.js[k].rid⟩) h1 h2 rfl hn9 (by rw [kL_add hi, ek, e3]; rfl) hI.sorted, copy_perm hC.len h8⟩, by simp at hsl ⊢; omega⟩)
  | ((with_reducible refine atRet ?_); have ej := hC.all hI hall; subst ej; exact RetK.here (hK _ _ H (two_new hI hC (hS.need0 (by (repeat first | exact mD | (apply mT; (· (repeat first | exact pH | apply pT))) | (apply mV; (· assumption); (· (repeat first | exact pH | apply pT)); (· first | exact (by simp) | exact SzC.flat (fun _ => rfl) _)) | (apply mO; (· (repeat first | exact pH | apply pT)); (· first | exact (by simp) | exact SzC.flat (fun _ => rfl) _)) | apply mF | apply mE | apply mX))))))
  | ((with_reducible refine atDraw 9 ?_); refine AWP.draw noY_sound [[], [0], [], [2], [2, 3], [2, 3, 4], [0, 1, 2, 3, 4, 5]] [⟨0, false, []⟩, ⟨1, false, []⟩, ⟨2, false, []⟩, ⟨3, false, []⟩, ⟨4, false, []⟩, ⟨5, false, []⟩, ⟨6, true, []⟩] [0, 1, 2, 3, 4, 5, 6] [0, 1, 2, 3, 4, 5, 6] (by kernel_rfl) ?_)) <;> (replace F := hS.facts; (try simp only [Facts_obj, Facts_tl, Facts_own, Facts_pool, Facts_mp, Facts_rg] at F); try simp only [EVA, reduceIte, reduceCtorEq, Nat.reduceEqDiff, Nat.reduceLT, Nat.reduceLeDiff, Int.reduceEq, Int.reduceLT, Int.reduceLE, Nat.reduceMul, Int.reduceToNat, Nat.reduceAdd, Int.reduceAdd, Int.reduceSub, Int.reduceMul, Int.reduceNeg, Try.ntmps29, (show Try.f29.results.toList = [.tmp 2] from rfl), (show IntKind.i64.wrap 1 = 1 from rfl), (show IntKind.i64.wrap (-1) = -1 from rfl), eop_lookup, eop_mapUpdate, eop_range, eop_next, eop_entry, eop_makeMap, callE_copy, Int.reduceEq, hF, F])))
theorem c29 {a0 r : PSt} {gha0 : PG} {pa0 : Nat} (hS : Hv H (poolI pa0 gha0 a0 :: L)) (hg : g29 n a0 = some r) (hK : ∀ (G : TG) (q : Nat) (H' : AHeap), Hv H' (twoI q r pa0 G a0 :: L) → K (.ptr q 0) H') :
  ACall Try.prog B w0 29 [.ptr pa0 0] H K := by
 unfold g29 at hg
 by_cases c : a0.alive.length ≤ 1000
 ·rw [if_pos c] at hg
  obtain rfl := Option.some.inj hg
  exact c29k hS c hK
 ·rw [if_neg c] at hg; cases hg
end
end Go.Av
end
