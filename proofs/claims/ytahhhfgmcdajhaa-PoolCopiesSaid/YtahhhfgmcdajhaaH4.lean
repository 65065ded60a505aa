/- walks by hand, part 4 -/
import Derived.Test.YtahhhfgmcdajhaaH3
set_option autoImplicit false
set_option linter.unusedSimpArgs false
set_option linter.unusedVariables false
set_option linter.unnecessarySimpa false
section
set_option linter.unusedSimpArgs false
set_option linter.unusedVariables false
set_option linter.unnecessarySimpa false
set_option maxHeartbeats 8000000
set_option maxRecDepth 10000
namespace Go.Av
open Go.RowKit Go.Proofs
theorem callE_copy {P : Program} {B : Nat} {w0 : World} {Y : Hand} {a : List AV} {H : AHeap} {K : AV → AHeap → Prop} {x y : Operand} {t t2 : TypeId} : callE P B w0 Y a H K (.builtin .copy) [x, y] [t, t2] = CpyQ P t t2 (ev a x) (ev a y) H K := Eq.trans rfl rfl
theorem mul64 : ∀ k : Fin 65, g77 0 1 (k.val : Int) = some (0, (k.val : Int)) := by decide +kernel
theorem mul64' {n k : Nat} (h : k ≤ 64) : g77 n 1 (k : Int) = some (0, (k : Int)) := mul64 ⟨k, by omega⟩
section
variable {B : Nat} {w0 : World} {n : Nat} {H : AHeap} {L L' R Bs : List Item} {K : AV → AHeap → Prop}
theorem cpy_b {id off len : Nat} {l ys : List Bool} {y : AV} (hsrc : SrcP Try.prog H 1 86 y (List.map AV.bool ys)) (hp : Pull L (.obj id (.cells (List.map AV.bool l))) L') (hS : Hv H L) (hoff : off + len ≤ l.length)
  (hK : ∀ H', Hv H' (.obj id (.cells (List.map AV.bool (l.take off ++ (ys.take (min ys.length len) ++ l.drop (off + min ys.length len))))) :: L') → K (.int .i64 ((min ys.length len : Nat) : Int)) H') : CpyQ Try.prog 86 86 (.sl 1 id off len) y H K := by
 have hs := hS.pull hp
 have hid : H[id]? = some (.cells (List.map AV.bool l)) := hs.each (.obj _ _) (List.mem_cons_self ..)
 refine ⟨_, _, _, _, _, _, ty86, rfl, ty4, ty86, rfl, hsrc, ?_, .inr ⟨id, off, len, _, rfl, hid, ?_, ?_⟩⟩
 ·rw [flat_one AV.bool (fun _ => rfl)]
  intro v hv
  obtain ⟨b, _, rfl⟩ := List.mem_map.1 hv
  rfl
 ·simp; omega
 ·rw [List.length_map]
  refine hK _ ?_
  have e : putA (List.map AV.bool l) off (flat (List.take (min ys.length len) (List.map AV.bool ys))) = List.map AV.bool (l.take off ++ (ys.take (min ys.length len) ++ l.drop (off + min ys.length len))) := by
   rw [← List.map_take, flat_one AV.bool (fun _ => rfl)]
   unfold putA
   simp only [List.map_append, List.map_take, List.map_drop, List.length_take, List.length_map, List.append_assoc]
   congr 3
   omega
  rw [e]
  exact hs.set (y := .obj id _) rfl _ (get_set_self _ hid) (fun j h => by cases h; rfl)
theorem src_b {id i : Nat} {l : List Bool} (hl : i ≤ l.length) (hid : H[id]? = some (.cells (List.map AV.bool l))) : SrcP Try.prog H 1 86 (.sl 1 id 0 i) (List.map AV.bool (l.take i)) := by
 refine .inr ⟨_, _, id, 0, _, ty86, rfl, ?_, hid, ?_, ?_, ?_⟩
 ·rw [List.length_map, List.length_take, Nat.min_eq_left hl]
 ·rw [List.length_map, List.length_take, Nat.min_eq_left hl, List.length_map]; omega
 ·intro e he
  obtain ⟨b, _, rfl⟩ := List.mem_map.1 he
  rfl
 ·rw [flat_one AV.bool (fun _ => rfl), List.length_map, List.length_take, Nat.min_eq_left hl, List.drop_zero, Nat.mul_one, ← List.map_take]
theorem rep_step {l : List Bool} {N i : Nat} (hl : l.length = N) (hi : i < N) (h : l.take i = List.replicate i true) : (l.take i ++ ((l.take i).take (min (l.take i).length (N - i)) ++ l.drop (i + min (l.take i).length (N - i)))).length = N ∧ (l.take i ++ ((l.take i).take (min (l.take i).length (N - i)) ++ l.drop (i + min (l.take i).length (N - i)))).take (i + min (l.take i).length (N - i)) = List.replicate (i + min (l.take i).length (N - i)) true := by
 have h1 : (l.take i).length = i := by simp; omega
 rw [h1]
 have h2 : min i (N - i) ≤ i := Nat.min_le_left _ _
 refine ⟨by simp; omega, ?_⟩
 rw [← List.append_assoc, List.take_append_of_le_length (by simp; omega), h, List.take_replicate, List.replicate_append_replicate, List.take_of_length_le (by simp)]
 congr 1; omega
theorem c45 {N : Nat} (h1 : 1 ≤ N) (h64 : N ≤ 64) (hS : Hv H L) (hK : ∀ (v : AV) H', Hv H' (.own 1 v (List.map AV.bool (List.replicate N true)) :: L) → K v H') :
  ACall Try.prog B w0 45 [.dl 1 [.bool true] .full, .int .i64 (N : Int)] H K := by
 have hu : IntKind.u64.wrap (N : Int) = (N : Int) := wrap_u64 (by omega) (by omega)
 have hi6 : IntKind.i64.wrap (N : Int) = (N : Int) := wrap_i64 (by omega) (by omega)
 refine ACall.ret ?_
 refine ACall.enterK Try.f45 Try.func45 (by kernel_rfl) rfl (eawp_sound noY_sound _ _ _ _ ?_)
 have hF := True.intro
 have F := hS.facts
 have h0 := True.intro
 repeat' (first | ((with_reducible refine atEany ?_); first | refine pSeq rfl ?_ | refine pBlk rfl ?_ | refine pLoop rfl ?_ | refine pRange rfl ?_ | refine pDraw rfl ?_) | ((first
  | (clear h0)
  | ((with_reducible refine atGBr ?_); (refine Br.go2 (fun h => ?_) (fun h => ?_)) <;> replace hF := And.intro h hF)
  | ((with_reducible refine atGbr ?_); (refine branch_go2 (fun h => ?_) (fun h => ?_)) <;> replace hF := And.intro h hF)
  | ((with_reducible refine atEany ?_); first | refine pReg rfl ?_ | refine pCond rfl ?_ | refine pRet rfl ?_ | refine pExit rfl ?_ | refine pSkip rfl ?_)
  | ((with_reducible refine atF 77 ?_); refine ACall.wkN (fun H hS => c77 (n := 0) hS (mul64' h64) ?_) (WkA.same _) hS (by exact nD) ; intro H hS)
  | (refine makeO1 (d := false) (N := 64) (fun _ => rfl) ty86 rfl ty4 rfl rfl rfl rfl (by decide) (by decide) hS (by omega) ?_; intro v H hS; rcases split91 (fun _ => rfl) .here hS with ⟨hl, s9, hv⟩ | ⟨id, rfl, hS9⟩; (exfalso; simp at hl; omega); clear hS; have hS := hS9; clear hS9; simp only [List.length_replicate, Int.toNat_natCast] at hS ⊢)
  | (refine cpy_b (l := List.replicate N false) (ys := [true]) (.inl (by simp [srcA, ty86]; fail_if_success refine ?_)) (by (repeat first | exact pH | apply pT); fail_if_success refine ?_) hS (by simp; fail_if_success refine ?_) ?_; intro H hS; have hm : min [true].length N = 1 := Nat.min_eq_left h1; rw [hm] at hS ⊢)
  | ((with_reducible refine atLen ?_); refine len_v ty86 rfl rfl ?_)
  | ((with_reducible refine atLoop ?_); refine AWP.loopI (σ := Nat) 1 (fun i => [.k, .k, .k, .d, .d, .d, .d, .k, .p (.int .i64 (i : Nat)), .d, .d, .d, .d, .d, .d, .d, .d, .d, .d, .d, .d, .d, .d, .d, .d, .d, .d, .d, .d, .d, .d, .d, .d, .d, .d, .d, .d, .d, .d, .d, .d, .d, .d, .d, .d, .d, .d, .d]) (fun i H => 1 ≤ i ∧ i ≤ N ∧ ∃ l : List Bool, l.length = N ∧ l.take i = List.replicate i true ∧ Hv H (.obj id (.cells (List.map AV.bool l)) :: L)) (fun i => N - i) (by (repeat first | exact sZ | with_reducible apply sD | with_reducible apply sK | apply sP | apply sF | apply sN | apply sT)) ⟨by omega, h1, _, by simp; omega, by simp [List.replicate_succ], hS⟩ (fun i H hJ => ?_); obtain ⟨hi1, hil, l, hl, htk, hS⟩ := hJ; refine eawp_sound noY_sound _ _ _ _ ?_; simp only [applyS_d, applyS_k, applyS_p, applyS_nil])
  | (have hlt : i < N := (by simp at hF; omega); rw [if_pos (show i ≤ N by omega), if_neg (show ¬ (i = N ∧ ¬ i = 0) by omega)])
  | (rw [if_pos (show i ≤ N by omega)])
  | (refine cpy_b (l := l) (ys := l.take i) (src_b (by omega) (hS.each (.obj id _) (.head _))) (by (repeat first | exact pH | apply pT); fail_if_success refine ?_) hS (by omega) ?_; intro H hS)
  | ((with_reducible refine atEx ?_); have hst := rep_step hl (show i < N by simp at hF; omega) htk; have hmi : min (l.take i).length (N - i) = min i (N - i) := (by rw [List.length_take]; omega); rw [show IntKind.i64.wrap ((i : Int) + ((min (l.take i).length (N - i) : Nat) : Int)) = ((i + min (l.take i).length (N - i) : Nat) : Int) from by rw [hmi, wrap_i64 (by omega) (by omega)]; omega]; exact ⟨i + min (l.take i).length (N - i), by ((repeat first | exact sZ | with_reducible apply sD | with_reducible apply sK | apply sP | apply sF | apply sN | apply sT); fail_if_success refine ?_), ⟨by omega, by omega, _, hst.1, hst.2, hS⟩, by rw [hmi]; simp at hF; omega⟩)
  | ((with_reducible refine atRet ?_); refine RetK.here ?_; have e : i = N := (by simp at hF; omega); subst e; rw [List.take_of_length_le (by omega)] at htk; subst htk; exact hK _ _ (Hv.reown (id := id) (len := i) rfl .here (by simp) hS))
  | (exfalso; have hq := hF; simp at hq; omega)
  | ((with_reducible refine atDraw 9 ?_); refine AWP.draw noY_sound [[], [], [], [1, 2], [], [], [4, 5], [1, 2, 3, 4, 5, 6], [0, 1, 2, 3, 4, 5, 6, 7], [0, 1, 2, 3, 4, 5, 6, 7, 8]] [⟨0, false, []⟩, ⟨1, false, []⟩, ⟨2, false, []⟩, ⟨3, false, []⟩, ⟨4, false, []⟩, ⟨5, false, []⟩, ⟨6, false, []⟩, ⟨7, true, []⟩, ⟨8, false, []⟩, ⟨9, true, []⟩] [0, 1, 2, 3, 4, 5, 6, 7, 8, 9] [0, 1, 2, 3, 4, 5, 6, 7, 8, 9] (by kernel_rfl) ?_)) <;> (replace F := hS.facts; (try simp only [Facts_obj, Facts_tl, Facts_own, Facts_pool, Facts_mp] at F); try simp only [EVA, reduceIte, reduceCtorEq, Nat.reduceEqDiff, Nat.reduceLT, Nat.reduceLeDiff, Int.reduceEq, Int.reduceLT, Int.reduceLE, Nat.reduceMul, Int.reduceToNat, Nat.reduceAdd, Int.reduceAdd, Int.reduceSub, Int.reduceMul, Int.reduceNeg, Try.ntmps45, (show Try.f45.results.toList = [.tmp 4] from rfl), (show IntKind.i64.wrap 1 = 1 from rfl), (show IntKind.i64.wrap (-1) = -1 from rfl), natZ, hu, hi6, callE_copy, (show IntKind.u64.wrap 1 = 1 from rfl), hF, F])))
theorem c45i {x : Int} (h1 : 1 ≤ x) (h64 : x ≤ 64) (hS : Hv H L) (hK : ∀ (v : AV) H', Hv H' (.own 1 v (List.map AV.bool (List.replicate x.toNat true)) :: L) → K v H') :
  ACall Try.prog B w0 45 [.dl 1 [.bool true] .full, .int .i64 x] H K := by
 obtain ⟨N, rfl⟩ := Int.eq_ofNat_of_zero_le (show 0 ≤ x by omega)
 exact c45 (by omega) (by omega) hS (by simpa using hK)
theorem c10 {a0 a1 : Int} {r : Option PSt × Int} (hS : Hv H L) (hg : g10 n a0 a1 = some r) (hK0 : Option.isNone r.1 = true → ∀ H', Hv H' L → K (.tup [.nilp, .int .i64 r.2]) H')
  (hK1 : Option.isNone r.1 = false → ∀ (g : PG) (q0 : Nat) (H' : AHeap), Hv H' (poolI q0 g (Option.getD r.1 default) :: L) → K (.tup [.ptr q0 0, .int .i64 r.2]) H') : ACall Try.prog B w0 10 [.int .i64 a0, .int .i64 a1] H K := by
 obtain rfl := Option.some.inj hg
 refine ACall.ret ?_
 refine ACall.enterK Try.f10 Try.func10 (by kernel_rfl) rfl (eawp_sound noY_sound _ _ _ _ ?_)
 have hF := True.intro
 have F := hS.facts
 have h0 := True.intro
 repeat' (first | ((with_reducible refine atEany ?_); first | refine pSeq rfl ?_ | refine pBlk rfl ?_ | refine pLoop rfl ?_ | refine pRange rfl ?_ | refine pDraw rfl ?_) | ((first
  | (clear h0)
  | ((with_reducible refine atGBr ?_); (refine Br.go2 (fun h => ?_) (fun h => ?_)) <;> replace hF := And.intro h hF)
  | ((with_reducible refine atGbr ?_); (refine branch_go2 (fun h => ?_) (fun h => ?_)) <;> replace hF := And.intro h hF)
  | ((with_reducible refine atEany ?_); first | refine pReg rfl ?_ | refine pCond rfl ?_ | refine pRet rfl ?_ | refine pExit rfl ?_ | refine pSkip rfl ?_)
  | ((with_reducible refine atF 45 ?_); refine c45i (by simp at hF; omega) (by simp at hF; omega) hS ?_; intro v H hS)
  | (refine make_mp .i hS ?_; intro m H hS)
  | ((with_reducible refine atBox2 26 ?_); have o1 : AV.one (.map (some m)) = true := rfl; refine box_go (by simp only [okCells, AV.cells, List.all_cons, List.all_nil, F, oneInt, o1, isUndef, Bool.and_true, Bool.true_and, Bool.not_false, Bool.and_self]) hS ?_; intro o4 H hS; simp only [AV.cells] at hS)
  | ((with_reducible refine atRet ?_); have e : pNew a0 a1 = (none, 1) := (by unfold pNew maxI; exact if_pos (by simp at hF; omega)); rw [e] at hK0; exact RetK.here (hK0 rfl H hS))
  | ((with_reducible refine atRet ?_); have e : pNew a0 a1 = (some ⟨List.replicate a0.toNat true, a1, 0, []⟩, 0) := (by unfold pNew maxI; exact if_neg (by simp at hF; omega)); rw [e] at hK1; exact RetK.here (hK1 rfl ⟨m, v, [], []⟩ o4 H (Hv.cls (A := poolL o4 ⟨m, v, [], []⟩ ⟨List.replicate a0.toNat true, a1, 0, []⟩) ⟨rfl, .refl _, .nil, (by simp), (by simp), (by simp)⟩ (hS.need0 (by simp only [poolL, List.cons_append]; (repeat first | exact mD | (apply mT; (· (repeat first | exact pH | apply pT))) | (apply mV; (· assumption); (· (repeat first | exact pH | apply pT)); (· first | exact (by simp) | exact SzC.flat (fun _ => rfl) _)) | (apply mO; (· (repeat first | exact pH | apply pT)); (· first | exact (by simp) | exact SzC.flat (fun _ => rfl) _)) | apply mF | apply mE | apply mX))))))) <;> (replace F := hS.facts; (try simp only [Facts_obj, Facts_tl, Facts_own, Facts_pool, Facts_mp] at F); try simp only [EVA, reduceIte, reduceCtorEq, Nat.reduceEqDiff, Nat.reduceLT, Nat.reduceLeDiff, Int.reduceEq, Int.reduceLT, Int.reduceLE, Nat.reduceMul, Int.reduceToNat, Nat.reduceAdd, Int.reduceAdd, Int.reduceSub, Int.reduceMul, Int.reduceNeg, Try.ntmps10, (show Try.f10.results.toList = [.tmp 4, .tmp 5] from rfl), (show IntKind.i64.wrap 1 = 1 from rfl), (show IntKind.i64.wrap (-1) = -1 from rfl), eop_lookup, eop_mapUpdate, eop_range, eop_next, eop_entry, eop_makeMap, hF, F])))
end
end Go.Av
end

section
set_option linter.unusedSimpArgs false
set_option linter.unusedVariables false
set_option linter.unnecessarySimpa false
set_option maxHeartbeats 8000000
set_option maxRecDepth 10000
namespace Go.Av
open Go.RowKit Go.Proofs
def dieU (w : Int) (x : PTry) : PTry := { x with over := x.over || decide (x.worker = w) }
def dieJ (w : Int) (j : PJob) : PJob := { j with tries := j.tries.map (dieU w) }
def dieA (w : Int) (ids : List Int) (js : List PJob) : List PJob := js.map fun j => if j.id ∈ ids then dieJ w j else j
def dieT (w : Int) (l : List PTry) (x : Nat) : List PTry := (l.take x).map (dieU w) ++ l.drop x
theorem dieT_len {w : Int} {l : List PTry} {x : Nat} (h : x ≤ l.length) : (dieT w l x).length = l.length := by simp [dieT]; omega
theorem dieT_0 {w : Int} {l : List PTry} : dieT w l 0 = l := by simp [dieT]
theorem dieT_n {w : Int} {l : List PTry} : dieT w l l.length = l.map (dieU w) := by simp [dieT]
theorem dieT_at {w : Int} {l : List PTry} {x : Nat} (h : x < l.length) : rdn (dieT w l x) x = rdn l x := by
 unfold rdn dieT
 rw [List.getD_eq_getElem?_getD, List.getD_eq_getElem?_getD, List.getElem?_append_right (by simp; omega)]
 simp [Nat.min_eq_left (Nat.le_of_lt h)]
theorem dieT_set {w : Int} {l : List PTry} {x : Nat} (h : x < l.length) : (dieT w l x).set x (dieU w (rdn l x)) = dieT w l (x + 1) := by
 have hx : rdn l x = l[x] := by simp [rdn, h]
 unfold dieT
 rw [List.set_append, if_neg (by simp; omega), List.take_succ_eq_append_getElem h, List.map_append, List.append_assoc]
 congr 1
 rw [List.length_map, List.length_take, Nat.min_eq_left (Nat.le_of_lt h), Nat.sub_self, List.drop_eq_getElem_cons h, hx]
 rfl
theorem PInv.nd {g : PG} {s : PSt} (hI : PInv g s) : (g.ms.map keyI).Nodup := by
 refine hI.keys.nodup_iff.2 ?_
 rw [List.Nodup, List.pairwise_map]
 exact hI.sorted.imp fun h => by omega
theorem key_new {ms : List MA} (hn : (ms.map keyI).Nodup) {seen : List Nat} (hb : ∀ i, i ∈ seen → i < ms.length) {i : Nat} (hi : i < ms.length) (hs : i ∉ seen) : keyI ms[i] ∉ kL ms seen := by
 intro h
 obtain ⟨j, hj, e⟩ := List.mem_map.1 h
 have hjl := hb j hj
 have e2 : ms.getD j ([], .undef) = ms[j] := by simp [List.getD_eq_getElem?_getD, hjl]
 rw [e2] at e
 have : j = i := by
  have h1 : (ms.map keyI)[j]'(by simpa using hjl) = (ms.map keyI)[i]'(by simpa using hi) := by simpa using e
  exact (List.getElem_inj hn).1 h1
 exact hs (this ▸ hj)
theorem dieA_len {w : Int} {ids : List Int} {js : List PJob} : (dieA w ids js).length = js.length := by simp [dieA]
theorem dieA_at {w : Int} {ids : List Int} {js : List PJob} {k : Nat} (hk : k < js.length) (h : js[k].id ∉ ids) (hk2 : k < (dieA w ids js).length) : (dieA w ids js)[k] = js[k] := by simp [dieA, h]
theorem dieA_set {w : Int} {ids : List Int} {js : List PJob} (hs : js.Pairwise (fun a b => a.id < b.id)) {k : Nat} (hk : k < js.length) : (dieA w ids js).set k (dieJ w js[k]) = dieA w (ids ++ [js[k].id]) js := by
 refine List.ext_getElem (by simp [dieA]) fun m h1 h2 => ?_
 have hm : m < js.length := by simpa [dieA] using h2
 rw [List.getElem_set]
 by_cases e : k = m
 ·subst e; simp [dieA]
 ·rw [if_neg e]
  have : js[m].id ≠ js[k].id := fun q => e (ids_inj hs hk hm q.symm)
  simp [dieA, this]
theorem PInv.die {g : PG} {s : PSt} (hI : PInv g s) (w : Int) {al : List Bool} {tk : Int} : PInv g ⟨al, s.timeout, tk, s.jobs.map (dieJ w)⟩ := by
 have hz : List.zipWith keyE g.js (s.jobs.map (dieJ w)) = List.zipWith keyE g.js s.jobs := by
  rw [List.zipWith_map_right]; rfl
 refine ⟨by simpa using hI.len, by rw [hz]; exact hI.perm, ?_, ?_, ?_, by simpa using hI.count⟩
 ·rw [List.pairwise_map]; exact hI.sorted
 ·intro j hj; obtain ⟨a, ha, rfl⟩ := List.mem_map.1 hj; exact hI.body a ha
 ·intro j hj; obtain ⟨a, ha, rfl⟩ := List.mem_map.1 hj; simpa [dieJ] using hI.tries a ha
theorem dieA_all {g : PG} {s : PSt} (hI : PInv g s) {w : Int} {seen : List Nat} (ha : ∀ i, i < g.ms.length → i ∈ seen) : dieA w (kL g.ms seen) s.jobs = s.jobs.map (dieJ w) := by
 refine List.map_congr_left fun j hj => ?_
 have : j.id ∈ g.ms.map keyI := hI.keys.mem_iff.2 (List.mem_map.2 ⟨j, hj, rfl⟩)
 obtain ⟨e, he, q⟩ := List.mem_map.1 this
 obtain ⟨i, hi, rfl⟩ := List.mem_iff_getElem.1 he
 rw [if_pos]
 exact List.mem_map.2 ⟨i, ha i hi, by rw [← q]; simp [List.getD_eq_getElem?_getD, hi]⟩
section
variable {B : Nat} {w0 : World} {n : Nat} {H : AHeap} {L R Bs : List Item} {K : AV → AHeap → Prop}

theorem c24k {a0 : PSt} {a1 a2 : Int} {gha0 : PG} {pa0 : Nat} {r : Int × PSt} (hS : Hv H (poolI pa0 gha0 a0 :: L)) (hg : g24 n a0 a1 a2 = some r) (hK : ∀ (g : PG) (H' : AHeap), Keeps gha0 a0 g r.2 → Hv H' (poolI pa0 g r.2 :: L) → K (.int .i64 r.1) H') :
  ACall Try.prog B w0 24 [.ptr pa0 0, .int .i64 a1, .int .i64 a2] H K := by
 obtain rfl := Option.some.inj hg
 refine ACall.ret ?_
 have hL1 := True.intro
 have hL2 := True.intro
 refine ACall.enterK Try.f24 Try.func24 (by kernel_rfl) rfl (eawp_sound noY_sound _ _ _ _ ?_)
 have hF := True.intro
 have F := hS.facts
 have h0 := True.intro
 repeat' (first | ((with_reducible refine atEany ?_); first | refine pSeq rfl ?_ | refine pBlk rfl ?_ | refine pLoop rfl ?_ | refine pRange rfl ?_ | refine pDraw rfl ?_) | ((first
  | (clear h0)
  | ((with_reducible refine atGBr ?_); (refine Br.go2 (fun h => ?_) (fun h => ?_)) <;> replace hF := And.intro h hF)
  | ((with_reducible refine atGbr ?_); (refine branch_go2 (fun h => ?_) (fun h => ?_)) <;> replace hF := And.intro h hF)
  | ((with_reducible refine atEany ?_); first | refine pReg rfl ?_ | refine pCond rfl ?_ | refine pRet rfl ?_ | refine pExit rfl ?_ | refine pSkip rfl ?_)
  | ((with_reducible refine atF 48 ?_); refine c48 hS ?_; intro H hS; obtain ⟨hI, hS⟩ := hS.opn; have hc := (fun h => pCheck_ok (s := a0) (w := a1) (t := a2) h); simp only [poolL, List.cons_append] at hS)
  | ((with_reducible refine atIdx (x := gha0.av) ?_); have hcr := hc (by simp only [hF]); first | (have h9 := split91 (v := gha0.av) (enc := AV.bool) (fun _ => rfl) (by (repeat first | exact pH | apply pT); fail_if_success refine ?_) hS; rcases h9 with ⟨hl, s9, hv⟩ | ⟨_, hv_a, h8⟩; (· exfalso; first | (rw [hl] at hcr; simp at hcr; omega) | (simp [hl] at hF; done) | (simp [hl] at hF; omega)); replace hS := h8; replace hF := And.intro (ownF hv_a) hF; have hb : (Int.toNat a1 < a0.alive.length) = True := eq_true (by simp at hF; omega); replace hF := And.intro hb hF; refine idx_v1 ty86 rfl ty4 rfl hv_a (by simp at hF ⊢; omega) ?_) | refine idx_v1 ty86 rfl ty4 rfl hv_a (by simp at hF ⊢; omega) ?_)
  | ((with_reducible refine atSto 3 ?_); refine sto_go ty3 (by (repeat first | exact pH | apply pT); fail_if_success refine ?_) hS (by rfl) (by rfl) (by exact Nat.le_of_ble_eq_true rfl) ?_; intro H hS; simp only [putA_nil, putA_0, putA_s, List.cons_append, List.nil_append, AV.cells, List.length_cons, List.length_nil, List.drop_succ_cons, List.drop_zero, Nat.reduceAdd] at hS)
  | ((with_reducible refine atSto 4 ?_); refine stoL AV.bool ty4 (by (repeat first | exact pH | apply pT); fail_if_success refine ?_) hS rfl (wkD.refl _) (fun _ => rfl) (fun _ => rfl) rfl (by simp at hF; omega) ?_; intro H hS)
  | (refine ran_mp und88 (by (repeat first | exact pH | apply pT); fail_if_success refine ?_) hS ?_; intro it H hS)
  | ((with_reducible refine atLoop ?_); clear hL1; refine AWP.loopI (σ := List Nat) [] (fun _ => [.k, .k, .d, .d, .d, .d, .d, .d, .d, .d, .d, .d, .d, .d, .d, .d, .d, .d, .d, .d, .d, .d, .d, .d, .d, .d, .d, .d, .d, .d, .d, .d, .d, .d, .d, .d, .d, .d, .d, .d, .k, .d, .d, .d, .d, .d, .d, .d, .d, .d, .d, .d, .d, .d, .d, .d, .d, .d, .d, .d, .d, .d, .d, .d, .d, .d, .d, .d, .d, .d, .d, .d, .d, .d, .d, .d, .d, .d, .d, .d, .d]) (fun seen H => seen.Nodup ∧ (∀ i, i ∈ seen → i < gha0.ms.length) ∧ Hv H (rgI gha0.m it .i gha0.ms seen :: .obj pa0 (.cells [gha0.av, .int .i64 a0.timeout, .int .i64 a2, .map (some gha0.m)]) :: .own 1 gha0.av (List.map AV.bool (a0.alive.set a1.toNat false)) :: (jobsL gha0.js (dieA a1 (kL gha0.ms seen) a0.jobs) ++ L))) (fun s => gha0.ms.length - s.length) (by (repeat first | exact sZ | with_reducible apply sD | with_reducible apply sK | apply sP | apply sF | apply sN | apply sT)) ⟨List.nodup_nil, by simp, by rw [show dieA a1 (kL gha0.ms []) a0.jobs = a0.jobs from by simp [dieA, kL]]; exact hS.need0 (by (repeat first | exact mD | (apply mT; (· (repeat first | exact pH | apply pT))) | (apply mV; (· assumption); (· (repeat first | exact pH | apply pT)); (· first | exact (by simp) | exact SzC.flat (fun _ => rfl) _)) | (apply mO; (· (repeat first | exact pH | apply pT)); (· first | exact (by simp) | exact SzC.flat (fun _ => rfl) _)) | apply mF | apply mE | apply mX))⟩ (fun seen H hJ => ?_); obtain ⟨hnd, hbd, hS⟩ := hJ; refine eawp_sound noY_sound _ _ _ _ ?_; simp only [applyS_d, applyS_k, applyS_p, applyS_nil])
  | (refine nxt_rg (by (repeat first | exact pH | apply pT); fail_if_success refine ?_) hS (fun i hi hns H hS => ?_) (fun hall hS => ?_))
  | (refine cur_rg (by (repeat first | exact pH | apply pT); fail_if_success refine ?_) hS hi ?_; obtain ⟨k, h1, h2, ek⟩ := hI.mem.1 (List.getElem_mem hi); have h3 : k < (dieA a1 (kL gha0.ms seen) a0.jobs).length := (by rw [dieA_len]; exact h2); have hnk : a0.jobs[k].id ∉ kL gha0.ms seen := (by have := key_new hI.nd hbd hi hns; rw [ek] at this; exact this); have hdk := dieA_at (w := a1) h2 hnk h3; rw [ek]; replace hS := Hv.foc (A := [_, _, _]) h1 h3 hS; rw [hdk] at hS; simp only [keyE, jobL, jobC, List.cons_append, List.nil_append] at hS ⊢)
  | ((with_reducible refine atLen ?_); first | refine len_own ty92 rfl szT (by decide) (by (repeat first | exact pH | apply pT); fail_if_success refine ?_) hS ?_ | refine len_v ty92 rfl (by assumption) ?_)
  | ((with_reducible refine atLoop ?_); have htr := hI.tries _ (List.getElem_mem h2); refine AWP.loopI (σ := Nat) 0 (fun x => [.k, .k, .d, .d, .d, .d, .d, .d, .d, .k, .d, .d, .d, .d, .d, .d, .d, .d, .d, .d, .d, .d, .d, .d, .d, .d, .d, .d, .d, .d, .d, .d, .d, .d, .d, .d, .d, .d, .d, .d, .k, .d, .d, .d, .d, .d, .d, .d, .d, .k, .p (.int .i64 (x : Nat)), .d, .d, .d, .d, .d, .d, .d, .d, .d, .d, .d, .d, .d, .d, .d, .d, .d, .d, .d, .d, .d, .d, .d, .d, .d, .d, .d, .d, .d, .d]) (fun x H => x ≤ a0.jobs[k].tries.length ∧ Hv H (.obj gha0.js[k].jid (.cells [.int .i64 a0.jobs[k].id, .dl 1 (List.map (AV.int .u8) a0.jobs[k].body) .none, gha0.js[k].tv, ansV gha0.js[k] a0.jobs[k]]) :: .own 3 gha0.js[k].tv (flat (List.map encTry (dieT a1 a0.jobs[k].tries x))) :: (ansI gha0.js[k] a0.jobs[k] ++ (rgI gha0.m it .i gha0.ms (seen ++ [i]) :: .obj pa0 (.cells [gha0.av, .int .i64 a0.timeout, .int .i64 a2, .map (some gha0.m)]) :: .own 1 gha0.av (List.map AV.bool (a0.alive.set a1.toNat false)) :: (jrest gha0.js (dieA a1 (kL gha0.ms seen) a0.jobs) k ++ L))))) (fun x => a0.jobs[k].tries.length - x) (by (repeat first | exact sZ | with_reducible apply sD | with_reducible apply sK | apply sP | apply sF | apply sN | apply sT)) ⟨by omega, by rw [dieT_0]; exact hS⟩ (fun x H hJ => ?_); obtain ⟨hxl, hS⟩ := hJ; refine eawp_sound noY_sound _ _ _ _ ?_; simp only [applyS_d, applyS_k, applyS_p, applyS_nil])
  | ((with_reducible refine atIdx (x := gha0.js[k].tv) ?_); first | (have hx : x < a0.jobs[k].tries.length := (by simp at hF; omega); have h9 := split9 (v := gha0.js[k].tv) (enc := encTry) (sz := 3) szT (by decide) (by (repeat first | exact pH | apply pT); fail_if_success refine ?_) hS; rcases h9 with ⟨hl, s9, hv⟩ | ⟨_, hv_t, h8⟩; (· exfalso; have := congrArg List.length hl; rw [dieT_len hxl] at this; simp only [List.length_nil] at this; omega); replace hS := h8; have hxd : x < (dieT a1 a0.jobs[k].tries x).length := (by rw [dieT_len hxl]; exact hx); replace hF := And.intro (eq_true hxd) (And.intro (dieT_at (w := a1) hx) (And.intro (ownF hv_t) hF)); refine idx_v ty92 rfl ty101 rfl hv_t (by simp only [dieT_len hxl]; omega) ?_) | (refine idx_v ty92 rfl ty101 rfl hv_t (by simp only [dieT_len hxl]; omega) ?_))
  | ((with_reducible refine atSto 4 ?_); refine stoW encTry (f := 2) (dieU a1 (rdn a0.jobs[k].tries x)) ty4 (by (repeat first | exact pH | apply pT); fail_if_success refine ?_) hS rfl (wkD.refl _) rfl rfl szT (by rw [dieT_at hx]; simp [encTry, dieU, AV.cells, hF]; fail_if_success refine ?_) (by decide) hxd ?_; intro H hS; rw [dieT_set hx] at hS; replace hS := Hv.reown hv_t .here (by rw [flT, dieT_len (by omega), dieT_len hxl]) hS)
  | ((with_reducible refine atEx ?_); rw [wrapS2 (show x < 9223372036854775807 by omega)]; exact ⟨x + 1, by ((repeat first | exact sZ | with_reducible apply sD | with_reducible apply sK | apply sP | apply sF | apply sN | apply sT); fail_if_success refine ?_), ⟨by omega, hS.need0 (by (repeat first | exact mD | (apply mT; (· (repeat first | exact pH | apply pT))) | (apply mV; (· assumption); (· (repeat first | exact pH | apply pT)); (· first | exact (by simp) | exact SzC.flat (fun _ => rfl) _)) | (apply mO; (· (repeat first | exact pH | apply pT)); (· first | exact (by simp) | exact SzC.flat (fun _ => rfl) _)) | apply mF | apply mE | apply mX))⟩, by omega⟩)
  | ((with_reducible refine atEx ?_); have ex : x = a0.jobs[k].tries.length := (by simp at hF; omega); subst ex; rw [dieT_n] at hS; have h9 : Hv H (jobL gha0.js[k] (dieJ a1 a0.jobs[k]) ++ ([rgI gha0.m it .i gha0.ms (seen ++ [i]), .obj pa0 (.cells [gha0.av, .int .i64 a0.timeout, .int .i64 a2, .map (some gha0.m)]), .own 1 gha0.av (List.map AV.bool (a0.alive.set a1.toNat false))] ++ (jrest gha0.js (dieA a1 (kL gha0.ms seen) a0.jobs) k ++ L))) := hS; have h8 := Hv.unf h1 h3 h9; rw [List.set_getElem_self, dieA_set hI.sorted h2] at h8; have ekl : kL gha0.ms (seen ++ [i]) = kL gha0.ms seen ++ [a0.jobs[k].id] := (by rw [kL_add hi, ek]; rfl); have hsl := seen_len (n := gha0.ms.length) (l := seen ++ [i]) (List.nodup_append.2 ⟨hnd, by simp, fun a ha b hb => by simp at hb; subst hb; exact fun e => hns (e ▸ ha)⟩) (fun j hj => by rcases List.mem_append.1 hj with hj | hj; exact hbd j hj; simp at hj; omega); exact ⟨seen ++ [i], by ((repeat first | exact sZ | with_reducible apply sD | with_reducible apply sK | apply sP | apply sF | apply sN | apply sT); fail_if_success refine ?_), ⟨List.nodup_append.2 ⟨hnd, by simp, fun a ha b hb => by simp at hb; subst hb; exact fun e => hns (e ▸ ha)⟩, (fun j hj => by rcases List.mem_append.1 hj with hj | hj; exact hbd j hj; simp at hj; omega), by rw [ekl]; exact h8⟩, by simp at hsl ⊢; omega⟩)
  | ((with_reducible refine atRet ?_); have e : pDie a0 a1 a2 = (pCheck a0 a1 a2, a0) := (by simp only [pDie, hF, ne_eq, not_true_eq_false, not_false_eq_true, if_true, if_false, reduceIte, Bool.false_eq_true]; fail_if_success refine ?_); rw [e] at hK; exact RetK.here (hK gha0 H (.same rfl) (Hv.cls (A := poolL pa0 gha0 a0) hI hS)))
  | ((with_reducible refine atRet ?_); have e : pDie a0 a1 a2 = (24, a0) := (by simp only [pDie, hF, ne_eq, not_true_eq_false, not_false_eq_true, if_true, if_false, reduceIte, Bool.false_eq_true]; fail_if_success refine ?_); rw [e] at hK; exact RetK.here (hK gha0 H (.same rfl) (Hv.cls (A := poolL pa0 gha0 a0) hI (hS.need0 (by simp only [poolL, List.cons_append]; (repeat first | exact mD | (apply mT; (· (repeat first | exact pH | apply pT))) | (apply mV; (· assumption); (· (repeat first | exact pH | apply pT)); (· first | exact (by simp) | exact SzC.flat (fun _ => rfl) _)) | (apply mO; (· (repeat first | exact pH | apply pT)); (· first | exact (by simp) | exact SzC.flat (fun _ => rfl) _)) | apply mF | apply mE | apply mX))))))
  | ((with_reducible refine atRet ?_); rw [dieA_all hI hall] at hS; have e : pDie a0 a1 a2 = (0, { a0 with tick := a2, alive := a0.alive.set a1.toNat false, jobs := a0.jobs.map (dieJ a1) }) := (by simp only [pDie, hF, ne_eq, not_true_eq_false, not_false_eq_true, if_true, if_false, reduceIte, Bool.false_eq_true, Bool.true_eq_false]; first | rfl | skip); rw [e] at hK; exact RetK.here (hK gha0 H (Keeps.map (dieJ a1) rfl (fun _ => ⟨rfl, rfl⟩)) (Hv.cls (A := poolL pa0 gha0 ⟨a0.alive.set a1.toNat false, a0.timeout, a2, a0.jobs.map (dieJ a1)⟩) (hI.die a1) (hS.need0 (by simp only [poolL, List.cons_append]; (repeat first | exact mD | (apply mT; (· (repeat first | exact pH | apply pT))) | (apply mV; (· assumption); (· (repeat first | exact pH | apply pT)); (· first | exact (by simp) | exact SzC.flat (fun _ => rfl) _)) | (apply mO; (· (repeat first | exact pH | apply pT)); (· first | exact (by simp) | exact SzC.flat (fun _ => rfl) _)) | apply mF | apply mE | apply mX))))))
  | ((with_reducible refine atDraw 14 ?_); refine AWP.draw noY_sound [[], [0], [0, 1], [0, 1, 2], [], [], [5], [5, 6], [5, 6, 7], [], [5, 6, 7, 8, 9], [5, 6, 7, 8, 9, 10], [5, 6, 7, 8, 9, 10, 11], [5, 6, 7, 8, 9, 10, 11, 12], [5, 6, 7, 8, 9, 10, 11, 12, 13], [5, 6, 7, 8, 9, 10, 11, 12, 13, 14], [5, 6, 7, 8, 9, 10, 11, 12, 13, 14, 15], [5, 6, 7, 8, 9, 10, 11, 12, 13, 14, 15, 16], [5, 6, 7, 8, 9, 10, 11, 12, 13], [5, 6, 7, 8, 9, 10, 11, 12, 13, 14, 15, 16, 17, 18], [5, 6, 7, 8, 9, 10, 11, 12, 13, 14, 15, 16, 17, 18, 19], [5, 6, 7, 8, 9, 10, 11, 12, 13, 14, 15, 16, 17, 18, 19, 20], [5, 6, 7, 8, 9, 10, 11, 12, 13], [5, 6, 7, 8, 9, 10, 11, 12, 13, 14, 15, 16, 17, 18, 19, 20, 21, 22], [5, 6, 7, 8, 9, 10, 11, 12, 13, 14, 15, 16, 17, 18, 19, 20, 21, 22, 23], [0, 1, 2, 3, 4, 5, 6, 7, 8, 9, 10, 11, 12, 13, 14, 15, 16, 17, 18, 19, 20, 21, 22, 23, 24], [0, 1, 2, 3, 4, 5, 6, 7, 8, 9, 10, 11, 12, 13, 14, 15, 16, 17, 18, 19, 20, 21, 22, 23, 24, 25], [0, 1, 2, 3, 4, 5, 6, 7, 8, 9, 10, 11, 12, 13, 14, 15, 16, 17, 18, 19, 20, 21, 22, 23, 24, 25, 26]] [⟨0, false, []⟩, ⟨1, false, []⟩, ⟨2, false, []⟩, ⟨3, false, []⟩, ⟨4, false, []⟩, ⟨5, false, []⟩, ⟨6, false, []⟩, ⟨7, false, []⟩, ⟨8, false, []⟩, ⟨9, false, []⟩, ⟨10, false, []⟩, ⟨11, false, []⟩, ⟨12, false, []⟩, ⟨13, false, []⟩, ⟨14, false, []⟩, ⟨15, false, []⟩, ⟨16, false, []⟩, ⟨17, false, []⟩, ⟨18, false, []⟩, ⟨19, false, []⟩, ⟨20, false, []⟩, ⟨21, false, []⟩, ⟨22, false, []⟩, ⟨23, false, []⟩, ⟨24, false, []⟩, ⟨25, false, []⟩, ⟨26, false, []⟩, ⟨27, true, []⟩] [0, 1, 2, 3, 4, 5, 6, 7, 8, 9, 10, 11, 12, 13, 14, 15, 16, 17, 18, 19, 20, 21, 22, 23, 24, 25, 26, 27] [0, 1, 2, 3, 4, 5, 6, 7, 8, 9, 10, 11, 12, 13, 14, 15, 16, 17, 18, 19, 20, 21, 22, 23, 24, 25, 26, 27] (by kernel_rfl) ?_)) <;> (replace F := hS.facts; (try simp only [Facts_obj, Facts_tl, Facts_own, Facts_pool, Facts_mp, Facts_rg] at F); try simp only [EVA, reduceIte, reduceCtorEq, Nat.reduceEqDiff, Nat.reduceLT, Nat.reduceLeDiff, Int.reduceEq, Int.reduceLT, Int.reduceLE, Nat.reduceMul, Int.reduceToNat, Nat.reduceAdd, Int.reduceAdd, Int.reduceSub, Int.reduceMul, Int.reduceNeg, Try.ntmps24, (show Try.f24.results.toList = [.tmp 6] from rfl), (show IntKind.i64.wrap 1 = 1 from rfl), (show IntKind.i64.wrap (-1) = -1 from rfl), hwT0, hwT1, hwT2, twT, lwT, List.length_set, okV_f, okV_t, eop_lookup, eop_mapUpdate, eop_range, eop_next, eop_entry, eop_makeMap, hF, F])))
theorem c24 {a0 : PSt} {a1 a2 : Int} {gha0 : PG} {pa0 : Nat} {r : Int × PSt} (hS : Hv H (poolI pa0 gha0 a0 :: L)) (hg : g24 n a0 a1 a2 = some r) (hK : ∀ (g : PG) (H' : AHeap), Hv H' (poolI pa0 g r.2 :: L) → K (.int .i64 r.1) H') :
  ACall Try.prog B w0 24 [.ptr pa0 0, .int .i64 a1, .int .i64 a2] H K := c24k hS hg fun g H' _ h => hK g H' h
end
end Go.Av
end

section
set_option linter.unusedSimpArgs false
set_option linter.unusedVariables false
set_option linter.unnecessarySimpa false
set_option maxHeartbeats 8000000
set_option maxRecDepth 10000
namespace Go.Av
open Go.RowKit Go.Proofs
theorem szS2 : SzC 4 encS2 := fun _ => rfl
def dnL (js : List PJob) : List S2 := (js.filterMap fun j => j.ans.map fun r => (j.id, r)).map fun x => ⟨x.1, x.2.worker, x.2.try', x.2.body⟩
theorem dn_none {js : List PJob} {i : Nat} {a : Int} {b : List Int} {t : List PTry} (h2 : i < js.length) (e : js[i] = ⟨a, b, t, none⟩) : dnL (js.take (i + 1)) = dnL (js.take i) := by
 unfold dnL; rw [List.take_succ_eq_append_getElem h2, e]; simp
theorem dn_some {js : List PJob} {i : Nat} {a : Int} {b : List Int} {t : List PTry} {r : PAns} (h2 : i < js.length) (e : js[i] = ⟨a, b, t, some r⟩) : dnL (js.take (i + 1)) = dnL (js.take i) ++ [⟨a, r.worker, r.try', r.body⟩] := by
 unfold dnL; rw [List.take_succ_eq_append_getElem h2, e]; simp
theorem dn_len {js : List PJob} {i : Nat} : (dnL (js.take i)).length ≤ js.length := by
 unfold dnL; rw [List.length_map]; exact Nat.le_trans (List.length_filterMap_le _ _) (by simp; omega)
section
variable {B : Nat} {w0 : World} {n : Nat} {H : AHeap} {L R Bs : List Item} {K : AV → AHeap → Prop}

theorem c28 {a0 : PSt} {gha0 : PG} {pa0 : Nat} {r : List S2} (hS : Hv H (poolI pa0 gha0 a0 :: L)) (hg : g28 n a0 = some r) (hK : ∀ (H' : AHeap), Hv H' (poolI pa0 gha0 a0 :: L) → K (.dl 4 (List.map encS2 r) .none) H') :
  ACall Try.prog B w0 28 [.ptr pa0 0] H K := by
 obtain rfl := Option.some.inj hg
 refine ACall.retF ?_
 obtain ⟨hI, hS⟩ := hS.opn
 simp only [poolL, List.cons_append] at hS
 refine ACall.enterK Try.f28 Try.func28 (by kernel_rfl) rfl (eawp_sound noY_sound _ _ _ _ ?_)
 have hF := True.intro
 have F := hS.facts
 have h0 := True.intro
 repeat' (first | ((with_reducible refine atEany ?_); first | refine pSeq rfl ?_ | refine pBlk rfl ?_ | refine pLoop rfl ?_ | refine pRange rfl ?_ | refine pDraw rfl ?_) | ((first
  | (clear h0)
  | ((with_reducible refine atGBr ?_); (refine Br.go2 (fun h => ?_) (fun h => ?_)) <;> replace hF := And.intro h hF)
  | ((with_reducible refine atGbr ?_); (refine branch_go2 (fun h => ?_) (fun h => ?_)) <;> replace hF := And.intro h hF)
  | ((with_reducible refine atEany ?_); first | refine pReg rfl ?_ | refine pCond rfl ?_ | refine pRet rfl ?_ | refine pExit rfl ?_ | refine pSkip rfl ?_)
  | ((with_reducible refine atAlloc2 59 3 ?_); refine alloc_go ty59 rfl rfl hS ?_; intro o3 H hS; simp only [AV.cells] at hS)
  | ((with_reducible refine atAlloc2 38 5 ?_); refine alloc_go ty38 rfl rfl hS ?_; intro o5 H hS; simp only [AV.cells] at hS)
  | ((with_reducible refine atF 47 ?_); refine c47 hS ?_; intro pC H hS)
  | ((with_reducible refine atRange ?_); refine AWP.rangeGo6 (fun _ e => by cases e) rfl hS ?_; intro lp H lpx KE hl0 hr he0 he1 he2 hS; refine c78 (X := [.obj lp (lpx 0), .obj o3 (.cells [.dl 0 [] .full]), .own 4 (.dl 0 [] .full) (flat (List.map encS2 (dnL (a0.jobs.take 0))))]) (R := .own 1 gha0.av (List.map AV.bool a0.alive) :: (jobsL gha0.js a0.jobs ++ L)) (Z := fun i X => ∃ v, X = [.obj lp (lpx 0), .obj o3 (.cells [v]), .own 4 v (flat (List.map encS2 (dnL (a0.jobs.take i))))]) hI (hS.need0 (by simp only [List.cons_append, List.nil_append]; (repeat first | exact mD | (apply mT; (· (repeat first | exact pH | apply pT))) | (apply mV; (· assumption); (· (repeat first | exact pH | apply pT)); (· first | exact (by simp) | exact SzC.flat (fun _ => rfl) _)) | (apply mO; (· (repeat first | exact pH | apply pT)); (· first | exact (by simp) | exact SzC.flat (fun _ => rfl) _)) | apply mF | apply mE | apply mX))) ⟨_, rfl⟩ ?_ ?_ <;> first | (rintro i h1 h2 H X K' ⟨v, rfl⟩ hS hK1 hK2; simp only [List.cons_append, List.nil_append] at hS; refine hr _ _ _ _ (hS.pull (by (repeat first | exact pH | apply pT); fail_if_success refine ?_)) rfl ?_; intro Qa hqa; refine eawp_sound noY_sound _ _ _ _ ?_) | (rintro H X ⟨v, rfl⟩ hS; simp only [List.cons_append, List.nil_append] at hS; refine he0 _ _ _ (hS.pull (by (repeat first | exact pH | apply pT); fail_if_success refine ?_)) ?_; intro H hS))
  | (refine hqa _ _ _ (hS.pull (by (repeat first | exact pH | apply pT); fail_if_success refine ?_)) ?_; intro H lp2 Qr hlp hS hq1 hq2 hq3; have hbd := hI.body _ (List.getElem_mem h2); replace hS := Hv.foc (A := [_, _, _, _, _, _, _]) h1 h2 hS; ((generalize hgj : gha0.js[i] = gj at *; generalize hjj : a0.jobs[i] = j at *; rcases j with ⟨jid0, jbody, jtries, _ | jr⟩ <;> simp only [jobL, jobC, ansV, ansI, List.cons_append, List.nil_append] at hS) <;> refine eawp_sound noY_sound _ _ _ _ ?_))
  | ((with_reducible refine atSto 38 ?_); refine sto_go ty38 (by (repeat first | exact pH | apply pT); fail_if_success refine ?_) hS (by rfl) (by rfl) (by exact Nat.le_of_ble_eq_true rfl) ?_; intro H hS; simp only [putA_nil, putA_0, putA_s, List.cons_append, List.nil_append, AV.cells, List.length_cons, List.length_nil, List.drop_succ_cons, List.drop_zero, Nat.reduceAdd] at hS)
  | ((with_reducible refine atSto 28 ?_); refine sto_go ty28 (by (repeat first | exact pH | apply pT); fail_if_success refine ?_) hS (by rfl) (by rfl) (by exact Nat.le_of_ble_eq_true rfl) ?_; intro H hS; simp only [putA_nil, putA_0, putA_s, List.cons_append, List.nil_append, AV.cells, List.length_cons, List.length_nil, List.drop_succ_cons, List.drop_zero, Nat.reduceAdd] at hS)
  | ((with_reducible refine atF 46 ?_); have hbl : jr.body.length ≤ 65536 := hbd.2 jr rfl; refine c46 (n := 0) hS (by simp only [g46]; exact if_pos (by first | omega | (simp; omega))) ?_; intro tc H hS)
  | ((with_reducible refine atAppE2 27 ?_); refine appO_own (enc := encS2) (ys := [⟨jid0, jr.worker, jr.try', jr.body⟩]) szS2 apt59 (AppSrc.wk ty59 rfl rfl (by simp only [encS2, AV.cells]; (repeat first | exact kZ | apply kR | apply kF | apply kN | apply kE | apply kI | apply kI2 | apply kI3 | apply kT | apply kU); fail_if_success refine ?_)) (by (repeat first | exact mD | (apply mT; (· (repeat first | exact pH | apply pT))) | (apply mV; (· assumption); (· (repeat first | exact pH | apply pT)); (· first | exact (by simp) | exact SzC.flat (fun _ => rfl) _)) | (apply mO; (· (repeat first | exact pH | apply pT)); (· first | exact (by simp) | exact SzC.flat (fun _ => rfl) _)) | apply mF | apply mE | apply mX)) hS (by have := dn_len (js := a0.jobs) (i := i); have := hI.count; simp only [List.length_cons, List.length_nil]; omega) ?_; intro v1 H hS)
  | ((with_reducible refine atSto 59 ?_); refine sto_own ty59 (by (repeat first | exact pH | apply pT); fail_if_success refine ?_) (by (repeat first | exact pH | apply pT); fail_if_success refine ?_) hS (by rfl) (by exact Nat.le_of_ble_eq_true rfl) ?_; intro H hS; simp only [putA_nil, putA_0, putA_s, List.cons_append, List.nil_append, AV.cells, List.length_cons, List.length_nil, List.drop_succ_cons, List.drop_zero, Nat.reduceAdd] at hS)
  | (refine hq1 _ _ _ (hS.pull (by (repeat first | exact pH | apply pT); fail_if_success refine ?_)) ?_; intro H hS; have h9 := hS.need0 (n := jobL gj ⟨jid0, jbody, jtries, none⟩ ++ ([.obj lp (lpx 0), .obj pC _, .obj pa0 _, mpI _ _ _, .obj o3 (.cells [v]), .own 4 v _, .own 1 gha0.av _] ++ (jrest gha0.js a0.jobs i ++ L))) (by simp only [jobL, jobC, ansV, ansI, List.cons_append, List.nil_append]; (repeat first | exact mD | (apply mT; (· (repeat first | exact pH | apply pT))) | (apply mV; (· assumption); (· (repeat first | exact pH | apply pT)); (· first | exact (by simp) | exact SzC.flat (fun _ => rfl) _)) | (apply mO; (· (repeat first | exact pH | apply pT)); (· first | exact (by simp) | exact SzC.flat (fun _ => rfl) _)) | apply mF | apply mE | apply mX)); have h8 := refoc h1 h2 hgj hjj h9; refine hK1 _ [_, .obj o3 (.cells [v]), .own 4 v _] ⟨v, rfl⟩ ?_; rw [dn_none h2 hjj]; simp only [List.cons_append, List.nil_append]; exact Hv.need0 h8 (by (repeat first | exact mD | (apply mT; (· (repeat first | exact pH | apply pT))) | (apply mV; (· assumption); (· (repeat first | exact pH | apply pT)); (· first | exact (by simp) | exact SzC.flat (fun _ => rfl) _)) | (apply mO; (· (repeat first | exact pH | apply pT)); (· first | exact (by simp) | exact SzC.flat (fun _ => rfl) _)) | apply mF | apply mE | apply mX)))
  | (refine hq1 _ _ _ (hS.pull (by (repeat first | exact pH | apply pT); fail_if_success refine ?_)) ?_; intro H hS; have h9 := hS.need0 (n := jobL gj ⟨jid0, jbody, jtries, some jr⟩ ++ ([.obj lp (lpx 0), .obj pC _, .obj pa0 _, mpI _ _ _, .obj o3 (.cells [v1]), .own 4 v1 _, .own 1 gha0.av _] ++ (jrest gha0.js a0.jobs i ++ L))) (by simp only [jobL, jobC, ansV, ansI, List.cons_append, List.nil_append]; (repeat first | exact mD | (apply mT; (· (repeat first | exact pH | apply pT))) | (apply mV; (· assumption); (· (repeat first | exact pH | apply pT)); (· first | exact (by simp) | exact SzC.flat (fun _ => rfl) _)) | (apply mO; (· (repeat first | exact pH | apply pT)); (· first | exact (by simp) | exact SzC.flat (fun _ => rfl) _)) | apply mF | apply mE | apply mX)); have h8 := refoc h1 h2 hgj hjj h9; refine hK1 _ [_, .obj o3 (.cells [v1]), .own 4 v1 _] ⟨v1, rfl⟩ ?_; rw [dn_some h2 hjj]; simp only [List.cons_append, List.nil_append]; exact Hv.need0 h8 (by (repeat first | exact mD | (apply mT; (· (repeat first | exact pH | apply pT))) | (apply mV; (· assumption); (· (repeat first | exact pH | apply pT)); (· first | exact (by simp) | exact SzC.flat (fun _ => rfl) _)) | (apply mO; (· (repeat first | exact pH | apply pT)); (· first | exact (by simp) | exact SzC.flat (fun _ => rfl) _)) | apply mF | apply mE | apply mX)))
  | ((with_reducible refine atRetF ?_); refine RetF.own (enc := encS2) szS2 (by decide) (by (repeat first | exact mD | (apply mT; (· (repeat first | exact pH | apply pT))) | (apply mV; (· assumption); (· (repeat first | exact pH | apply pT)); (· first | exact (by simp) | exact SzC.flat (fun _ => rfl) _)) | (apply mO; (· (repeat first | exact pH | apply pT)); (· first | exact (by simp) | exact SzC.flat (fun _ => rfl) _)) | apply mF | apply mE | apply mX)) Rep.here hS ?_; intro H hS; rw [List.take_length]; exact .ret (RetK.here (hK H (Hv.cls (A := poolL pa0 gha0 a0) hI (hS.need0 (by simp only [poolL, List.cons_append]; (repeat first | exact mD | (apply mT; (· (repeat first | exact pH | apply pT))) | (apply mV; (· assumption); (· (repeat first | exact pH | apply pT)); (· first | exact (by simp) | exact SzC.flat (fun _ => rfl) _)) | (apply mO; (· (repeat first | exact pH | apply pT)); (· first | exact (by simp) | exact SzC.flat (fun _ => rfl) _)) | apply mF | apply mE | apply mX)))))))) <;> (replace F := hS.facts; (try simp only [Facts_obj, Facts_tl, Facts_own, Facts_pool, Facts_mp] at F); try simp only [EVA, reduceIte, reduceCtorEq, Nat.reduceEqDiff, Nat.reduceLT, Nat.reduceLeDiff, Int.reduceEq, Int.reduceLT, Int.reduceLE, Nat.reduceMul, Int.reduceToNat, Nat.reduceAdd, Int.reduceAdd, Int.reduceSub, Int.reduceMul, Int.reduceNeg, Try.ntmps28, (show Try.f28.results.toList = [.tmp 2] from rfl), (show IntKind.i64.wrap 1 = 1 from rfl), (show IntKind.i64.wrap (-1) = -1 from rfl), Int.reduceEq, hF, F])))
end
end Go.Av
end

section
set_option linter.unusedSimpArgs false
set_option linter.unusedVariables false
set_option linter.unnecessarySimpa false
set_option maxHeartbeats 8000000
set_option maxRecDepth 10000
namespace Go.Av
open Go.RowKit Go.Proofs
/-! two pools that share the answers that were taken before the one was copied -/
def jobL0 (g : JG) (j : PJob) : List Item := [.obj g.jid (.cells (jobC g j)), .own 3 g.tv (flat (List.map encTry j.tries))]
def jobs0L (gs : List JG) (js : List PJob) : List Item := (List.zipWith jobL0 gs js).flatten
def poolL0 (p : Nat) (g : PG) (s : PSt) : List Item :=
 .obj p (.cells [g.av, .int .i64 s.timeout, .int .i64 s.tick, .map (some g.m)]) :: .own 1 g.av (List.map AV.bool s.alive) :: mpI g.m .i g.ms :: jobs0L g.js s.jobs
def objA (e : Nat × Int × PAns) : Item := .obj e.1 (.cells [.int .i64 e.2.1, .int .i64 e.2.2.worker, .int .i64 e.2.2.try', .dl 1 (List.map (AV.int .u8) e.2.2.body) .none])
def tkA (e : Nat × Int × Option PAns) : Option (Nat × Int × PAns) := e.2.2.map fun r => (e.1, e.2.1, r)
def ansT (gs : List JG) (js : List PJob) : List (Nat × Int × PAns) := (aL gs js).filterMap tkA
theorem mem_ansT {gs : List JG} {js : List PJob} {a : Nat} {b : Int} {r : PAns} : (a, b, r) ∈ ansT gs js ↔ (a, b, some r) ∈ aL gs js := by
 unfold ansT
 rw [List.mem_filterMap]
 constructor
 ·rintro ⟨⟨x, y, z⟩, h, e⟩
  cases z with
  | none => cases e
  | some z => simp [tkA] at e; obtain ⟨rfl, rfl, rfl⟩ := e; exact h
 ·intro h; exact ⟨_, h, rfl⟩
theorem jobs_split : ∀ (gs : List JG) (js : List PJob), (jobsL gs js).Perm (jobs0L gs js ++ (ansT gs js).map objA)
 | [], js => by simp [jobsL, jobs0L, ansT, aL]
 | g :: gs, [] => by simp [jobsL, jobs0L, ansT, aL]
 | g :: gs, j :: js => by
  have ih := jobs_split gs js
  obtain ⟨a, b, t, _ | r⟩ := j
  ·have e : ansT (g :: gs) (⟨a, b, t, none⟩ :: js) = ansT gs js := by
    simp only [ansT, aL, List.zipWith_cons_cons]; exact List.filterMap_cons_none rfl
   rw [e]
   simp only [jobsL, jobs0L, List.zipWith_cons_cons, List.flatten_cons, jobL, jobL0, ansI, List.cons_append, List.nil_append]
   exact (ih.cons _).cons _
  ·have e : ansT (g :: gs) (⟨a, b, t, some r⟩ :: js) = (g.rid, a, r) :: ansT gs js := by simp [ansT, aL, tkA]
   rw [e]
   simp only [jobsL, jobs0L, List.zipWith_cons_cons, List.flatten_cons, jobL, jobL0, ansI, List.cons_append, List.nil_append, List.map_cons]
   refine List.Perm.cons _ (List.Perm.cons _ ?_)
   exact (ih.cons _).trans List.perm_middle.symm
theorem pool_split (p : Nat) (g : PG) (s : PSt) : (poolL p g s).Perm (poolL0 p g s ++ (ansT g.js s.jobs).map objA) := by
 simp only [poolL, poolL0, List.cons_append]
 exact (((jobs_split g.js s.jobs).cons _).cons _).cons _
theorem ansT_nodup {gs : List JG} {js : List PJob} (hs : js.Pairwise (fun a b => a.id < b.id)) : (ansT gs js).Nodup := by
 unfold ansT List.Nodup
 rw [List.pairwise_filterMap]
 refine List.Pairwise.imp (R := fun a b => a.2.1 < b.2.1) (fun {a b} h x hx y hy e => ?_) ?_
 ·subst e
  obtain ⟨a1, a2, a3⟩ := a
  obtain ⟨b1, b2, b3⟩ := b
  cases a3 with
  | none => cases hx
  | some u =>
   cases b3 with
   | none => cases hy
   | some v =>
    simp only [tkA, Option.map_some, Option.some.injEq] at hx hy
    rw [← hx] at hy
    simp only [Prod.mk.injEq] at hy
    simp only at h
    omega
 ·unfold aL
  refine List.pairwise_iff_getElem.2 fun i j hi hj hij => ?_
  rw [List.length_zipWith] at hi hj
  simp only [List.getElem_zipWith]
  exact List.pairwise_iff_getElem.1 hs i j (by omega) (by omega) hij
structure TG where
 B : List (Nat × Int × PAns)
 g : PG
 g2 : PG
structure TInv (G : TG) (s t : PSt) : Prop where
 i1 : PInv G.g s
 i2 : PInv G.g2 t
 nd : G.B.Nodup
 b1 : ∀ e, e ∈ ansT G.g.js s.jobs → e ∈ G.B
 b2 : ∀ e, e ∈ ansT G.g2.js t.jobs → e ∈ G.B
def twoL (q : Nat) (t : PSt) (p : Nat) (G : TG) (s : PSt) : List Item := poolL0 p G.g s ++ (poolL0 q G.g2 t ++ G.B.map objA)
def twoI (q : Nat) (t : PSt) (p : Nat) (G : TG) (s : PSt) : Item := bagI (twoL q t p G s) (TInv G s t)
theorem Facts_two (H : AHeap) (q : Nat) (t : PSt) (p : Nat) (G : TG) (s : PSt) (l : List Item) : Facts H (twoI q t p G s :: l) = Facts H l := Eq.trans rfl rfl
theorem two_swap {H : AHeap} {q p : Nat} {t s : PSt} {G : TG} {L : List Item} (h : Hv H (twoI q t p G s :: L)) : Hv H (twoI p s q ⟨G.B, G.g2, G.g⟩ t :: L) := by
 obtain ⟨hI, h1⟩ := h.opn
 refine Hv.cls (A := twoL p s q ⟨G.B, G.g2, G.g⟩ t) ⟨hI.i2, hI.i1, hI.nd, hI.b2, hI.b1⟩ (h1.perm ?_)
 refine List.Perm.append_right L ?_
 simp only [twoL]
 rw [← List.append_assoc, ← List.append_assoc]
 exact List.perm_append_comm.append_right _
def restE (G : TG) (s : PSt) : List (Nat × Int × PAns) := G.B.filter (fun e => decide (e ∉ ansT G.g.js s.jobs))
def restI (q : Nat) (t : PSt) (G : TG) (s : PSt) : Item := bagI (poolL0 q G.g2 t ++ (restE G s).map objA) True
theorem B_split {G : TG} {s t : PSt} (hI : TInv G s t) : G.B.Perm (ansT G.g.js s.jobs ++ restE G s) := by
 refine (List.perm_ext_iff_of_nodup hI.nd (List.nodup_append.2 ⟨ansT_nodup hI.i1.sorted, hI.nd.filter _, fun a ha b hb e => ?_⟩)).2 fun e => ?_
 ·subst e
  have := (List.mem_filter.1 hb).2
  simp at this; exact this ha
 ·rw [List.mem_append]
  constructor
  ·intro h
   by_cases c : e ∈ ansT G.g.js s.jobs
   ·exact .inl c
   ·exact .inr (List.mem_filter.2 ⟨h, by simpa using c⟩)
  ·rintro (h | h)
   ·exact hI.b1 e h
   ·exact (List.mem_filter.1 h).1
theorem two_foc {H : AHeap} {q p : Nat} {t s : PSt} {G : TG} {L : List Item} (h : Hv H (twoI q t p G s :: L)) : TInv G s t ∧ Hv H (poolI p G.g s :: restI q t G s :: L) := by
 obtain ⟨hI, h1⟩ := h.opn
 refine ⟨hI, Hv.cls (A := poolL p G.g s) hI.i1 ?_⟩
 have h2 : Hv H ((poolL0 q G.g2 t ++ (restE G s).map objA) ++ (poolL p G.g s ++ L)) := by
  refine h1.perm ?_
  have e1 := (B_split hI).map objA
  rw [List.map_append] at e1
  have e2 : (twoL q t p G s ++ L).Perm (poolL0 p G.g s ++ (poolL0 q G.g2 t ++ ((ansT G.g.js s.jobs).map objA ++ (restE G s).map objA)) ++ L) := List.Perm.append_right L (List.Perm.append_left _ (List.Perm.append_left _ e1))
  refine e2.trans ?_
  have e3 := (pool_split p G.g s).symm
  refine List.Perm.trans ?_ ((e3.append_right L).append_left _)
  simp only [List.append_assoc]
  generalize poolL0 p G.g s = a
  generalize poolL0 q G.g2 t = b
  generalize (ansT G.g.js s.jobs).map objA = c
  generalize (restE G s).map objA = d
  exact perm_mid.trans (List.Perm.append_left b (((List.Perm.append_left a perm_mid)).trans perm_mid))
 have h3 := Hv.cls (A := poolL0 q G.g2 t ++ (restE G s).map objA) (q := True) trivial h2
 exact h3.perm (List.perm_middle (l₁ := poolL p G.g s) (l₂ := L) (a := restI q t G s)).symm
theorem two_unf {H : AHeap} {q p : Nat} {t s s' : PSt} {G : TG} {g' : PG} {L : List Item} (hI : TInv G s t) (hk : Keeps G.g s g' s') (h : Hv H (poolI p g' s' :: restI q t G s :: L)) : Hv H (twoI q t p ⟨ansT g'.js s'.jobs ++ restE G s, g', G.g2⟩ s' :: L) := by
 obtain ⟨hI', h1⟩ := h.opn
 have h2 := (h1.perm (List.perm_middle (l₁ := poolL p g' s') (l₂ := L) (a := restI q t G s))).opn.2
 have h3 : Hv H (twoL q t p ⟨ansT g'.js s'.jobs ++ restE G s, g', G.g2⟩ s' ++ L) := by
  refine h2.perm ?_
  refine ((pool_split p g' s').append_right L |>.append_left _).trans ?_
  simp only [twoL, List.append_assoc, List.map_append]
  generalize poolL0 p g' s' = a
  generalize poolL0 q G.g2 t = b
  generalize (ansT g'.js s'.jobs).map objA = c
  generalize (restE G s).map objA = d
  exact (List.Perm.append_left b perm_mid).trans (perm_mid.trans (List.Perm.append_left a (List.Perm.append_left b perm_mid)))
 refine Hv.cls (A := twoL q t p ⟨ansT g'.js s'.jobs ++ restE G s, g', G.g2⟩ s') ⟨hI', hI.i2, ?_, fun e he => List.mem_append.2 (.inl he), fun e he => ?_⟩ h3
 ·refine List.nodup_append.2 ⟨ansT_nodup hI'.sorted, hI.nd.filter _, fun a ha b hb e => ?_⟩
  subst e
  have hap := h3.ap
  simp only [twoL, List.append_assoc, List.map_append] at hap
  have hap2 := (List.pairwise_append.1 (List.pairwise_append.1 (List.pairwise_append.1 hap).2.1).2.1).2.2
  exact hap2 (objA a) (List.mem_map.2 ⟨a, ha, rfl⟩) (objA a) (List.mem_append.2 (.inl (List.mem_map.2 ⟨a, hb, rfl⟩))) a.1 rfl rfl
 ·by_cases c : e ∈ ansT G.g.js s.jobs
  ·obtain ⟨x, y, z⟩ := e
   exact List.mem_append.2 (.inl (mem_ansT.2 (hk x y z (mem_ansT.1 c))))
  ·exact List.mem_append.2 (.inr (List.mem_filter.2 ⟨hI.b2 e he, by simpa using c⟩))
theorem two_op {H : AHeap} {q p : Nat} {t s s' : PSt} {G : TG} {L : List Item} {K' : AHeap → Prop} {Z : Prop} (hS : Hv H (twoI q t p G s :: L))
  (call : ∀ L' : List Item, Hv H (poolI p G.g s :: L') → (∀ (g' : PG) (H' : AHeap), Keeps G.g s g' s' → Hv H' (poolI p g' s' :: L') → K' H') → Z) (hK : ∀ (G' : TG) (H' : AHeap), Hv H' (twoI q t p G' s' :: L) → K' H') : Z := by
 obtain ⟨hI, h1⟩ := two_foc hS
 exact call (restI q t G s :: L) h1 fun g' H' hk hv => hK _ H' (two_unf hI hk hv)
theorem two_rd {H : AHeap} {q p : Nat} {t s : PSt} {G : TG} {L : List Item} {K' : AHeap → Prop} {Z : Prop} (hS : Hv H (twoI q t p G s :: L))
  (call : ∀ L' : List Item, Hv H (poolI p G.g s :: L') → (∀ (H' : AHeap), Hv H' (poolI p G.g s :: L') → K' H') → Z) (hK : ∀ (H' : AHeap), Hv H' (twoI q t p G s :: L) → K' H') : Z := by
 obtain ⟨hI, h1⟩ := two_foc hS
 refine call (restI q t G s :: L) h1 fun H' hv => hK _ ?_
 obtain ⟨_, h2⟩ := (two_unf (g' := G.g) (s' := s) hI (.same rfl) hv).opn
 refine Hv.cls (A := twoL q t p G s) hI (h2.perm (List.Perm.append_right L ?_))
 simp only [twoL]
 exact List.Perm.append_left _ (List.Perm.append_left _ ((B_split hI).symm.map objA))
section
variable {B : Nat} {w0 : World} {n : Nat} {H : AHeap} {L R Bs : List Item} {K : AV → AHeap → Prop} {qz : Nat} {tz : PSt}
theorem c12t {a0 : PSt} {a1 : S1} {gha0 : TG} {pa0 : Nat} {r : Int × PSt} (hS : Hv H (twoI qz tz pa0 gha0 a0 :: L)) (hg : g12 n a0 a1 = some r) (hK : ∀ (g : TG) (H' : AHeap), Hv H' (twoI qz tz pa0 g r.2 :: L) → K (.int .i64 r.1) H') :
  ACall Try.prog B w0 12 [.ptr pa0 0, .agg [.int .i64 a1.c0, .dl 1 (List.map (AV.int .u8) a1.c1) .none]] H K := two_op hS (fun L' hv k => c12k hv hg k) hK
theorem c26t {a0 : PSt} {a1 : Int} {gha0 : TG} {pa0 : Nat} {r : Int × PSt} (hS : Hv H (twoI qz tz pa0 gha0 a0 :: L)) (hg : g26 n a0 a1 = some r) (hK : ∀ (g : TG) (H' : AHeap), Hv H' (twoI qz tz pa0 g r.2 :: L) → K (.int .i64 r.1) H') : ACall Try.prog B w0 26 [.ptr pa0 0, .int .i64 a1] H K := two_op hS (fun L' hv k => c26k hv hg k) hK
theorem c15t {a0 : PSt} {a1 : S2} {a2 : Int} {gha0 : TG} {pa0 : Nat} {r : Bool × Int × PSt} (hS : Hv H (twoI qz tz pa0 gha0 a0 :: L)) (hg : g15 n a0 a1 a2 = some r) (hK : ∀ (g : TG) (H' : AHeap), Hv H' (twoI qz tz pa0 g r.2.2 :: L) → K (.tup [.bool r.1, .int .i64 r.2.1]) H') :
  ACall Try.prog B w0 15 [.ptr pa0 0, .agg [.int .i64 a1.c0, .int .i64 a1.c1, .int .i64 a1.c2, .dl 1 (List.map (AV.int .u8) a1.c3) .none], .int .i64 a2] H K := two_op hS (fun L' hv k => c15k hv hg k) hK
theorem c24t {a0 : PSt} {a1 a2 : Int} {gha0 : TG} {pa0 : Nat} {r : Int × PSt} (hS : Hv H (twoI qz tz pa0 gha0 a0 :: L)) (hg : g24 n a0 a1 a2 = some r) (hK : ∀ (g : TG) (H' : AHeap), Hv H' (twoI qz tz pa0 g r.2 :: L) → K (.int .i64 r.1) H') :
  ACall Try.prog B w0 24 [.ptr pa0 0, .int .i64 a1, .int .i64 a2] H K := two_op hS (fun L' hv k => c24k hv hg k) hK
theorem c14t {a0 : PSt} {a1 a2 : Int} {gha0 : TG} {pa0 : Nat} {r : S1 × Int × Bool × Int × PSt} (hS : Hv H (twoI qz tz pa0 gha0 a0 :: L)) (hg : g14 n a0 a1 a2 = some r)
  (hK : ∀ (g : TG) (H' : AHeap), Hv H' (twoI qz tz pa0 g r.2.2.2.2 :: L) → K (.tup [.agg [.int .i64 r.1.c0, .dl 1 (List.map (AV.int .u8) r.1.c1) .none], .int .i64 r.2.1, .bool r.2.2.1, .int .i64 r.2.2.2.1]) H') :
  ACall Try.prog B w0 14 [.ptr pa0 0, .int .i64 a1, .int .i64 a2] H K := two_op hS (fun L' hv k => c14k hv hg k) hK
theorem c13t {a0 : PSt} {gha0 : TG} {pa0 : Nat} {r : List Int} (hS : Hv H (twoI qz tz pa0 gha0 a0 :: L)) (hg : g13 n a0 = some r) (hK : ∀ (H' : AHeap), Hv H' (twoI qz tz pa0 gha0 a0 :: L) → K (.dl 1 (List.map (AV.int .i64) r) .none) H') :
  ACall Try.prog B w0 13 [.ptr pa0 0] H K := two_rd hS (fun L' hv k => c13 hv hg k) hK
theorem c28t {a0 : PSt} {gha0 : TG} {pa0 : Nat} {r : List S2} (hS : Hv H (twoI qz tz pa0 gha0 a0 :: L)) (hg : g28 n a0 = some r) (hK : ∀ (H' : AHeap), Hv H' (twoI qz tz pa0 gha0 a0 :: L) → K (.dl 4 (List.map encS2 r) .none) H') :
  ACall Try.prog B w0 28 [.ptr pa0 0] H K := two_rd hS (fun L' hv k => c28 hv hg k) hK
end

end Go.Av
end
