/- walks by hand, part 4 -/
import Derived.Test.YtahhhfgmcdajhaaH3
set_option autoImplicit false
set_option linter.unusedSimpArgs false
set_option linter.unusedVariables false
set_option linter.unnecessarySimpa false
section
set_option linter.unusedSimpArgs false
set_option linter.unusedVariables false
set_option linter.unnecessarySimpa false
set_option maxHeartbeats 8000000
set_option maxRecDepth 10000
namespace Go.Av
open Go.RowKit Go.Proofs
theorem callE_copy {P : Program} {B : Nat} {w0 : World} {Y : Hand} {a : List AV} {H : AHeap} {K : AV → AHeap → Prop} {x y : Operand} {t t2 : TypeId} : callE P B w0 Y a H K (.builtin .copy) [x, y] [t, t2] = CpyQ P t t2 (ev a x) (ev a y) H K := Eq.trans rfl rfl
theorem mul64 : ∀ k : Fin 65, g77 0 1 (k.val : Int) = some (0, (k.val : Int)) := by decide +kernel
theorem mul64' {n k : Nat} (h : k ≤ 64) : g77 n 1 (k : Int) = some (0, (k : Int)) := mul64 ⟨k, by omega⟩
section
variable {B : Nat} {w0 : World} {n : Nat} {H : AHeap} {L L' R Bs : List Item} {K : AV → AHeap → Prop}
theorem cpy_b {id off len : Nat} {l ys : List Bool} {y : AV} (hsrc : SrcP Try.prog H 1 86 y (List.map AV.bool ys)) (hp : Pull L (.obj id (.cells (List.map AV.bool l))) L') (hS : Hv H L) (hoff : off + len ≤ l.length)
  (hK : ∀ H', Hv H' (.obj id (.cells (List.map AV.bool (l.take off ++ (ys.take (min ys.length len) ++ l.drop (off + min ys.length len))))) :: L') → K (.int .i64 ((min ys.length len : Nat) : Int)) H') : CpyQ Try.prog 86 86 (.sl 1 id off len) y H K := by
 have hs := hS.pull hp
 have hid : H[id]? = some (.cells (List.map AV.bool l)) := hs.each (.obj _ _) (List.mem_cons_self ..)
 refine ⟨_, _, _, _, _, _, ty86, rfl, ty4, ty86, rfl, hsrc, ?_, .inr ⟨id, off, len, _, rfl, hid, ?_, ?_⟩⟩
 ·rw [flat_one AV.bool (fun _ => rfl)]
  intro v hv
  obtain ⟨b, _, rfl⟩ := List.mem_map.1 hv
  rfl
 ·simp; omega
 ·rw [List.length_map]
  refine hK _ ?_
  have e : putA (List.map AV.bool l) off (flat (List.take (min ys.length len) (List.map AV.bool ys))) = List.map AV.bool (l.take off ++ (ys.take (min ys.length len) ++ l.drop (off + min ys.length len))) := by
   rw [← List.map_take, flat_one AV.bool (fun _ => rfl)]
   unfold putA
   simp only [List.map_append, List.map_take, List.map_drop, List.length_take, List.length_map, List.append_assoc]
   congr 3
   omega
  rw [e]
  exact hs.set (y := .obj id _) rfl _ (get_set_self _ hid) (fun j h => by cases h; rfl)
theorem slLo {id n N : Nat} (h : n < N) : sliceA Try.prog 86 (.sl 1 id 0 N) (some (.int .i64 (n : Int))) none none = some (.sl 1 id n (N - n)) := by
 rw [sliceA_sl]
 simp [sliceS, ty86, ty4, bnd, show ¬ (n = N ∧ ¬ n = 0) from by omega, show n ≤ N from by omega]
theorem slHi {id n N : Nat} (h : n ≤ N) : sliceA Try.prog 86 (.sl 1 id 0 N) none (some (.int .i64 (n : Int))) none = some (.sl 1 id 0 n) := by
 rw [sliceA_sl]
 simp [sliceS, ty86, ty4, bnd, h]

theorem src_b {id i : Nat} {l : List Bool} (hl : i ≤ l.length) (hid : H[id]? = some (.cells (List.map AV.bool l))) : SrcP Try.prog H 1 86 (.sl 1 id 0 i) (List.map AV.bool (l.take i)) := by
 refine .inr ⟨_, _, id, 0, _, ty86, rfl, ?_, hid, ?_, ?_, ?_⟩
 ·rw [List.length_map, List.length_take, Nat.min_eq_left hl]
 ·rw [List.length_map, List.length_take, Nat.min_eq_left hl, List.length_map]; omega
 ·intro e he
  obtain ⟨b, _, rfl⟩ := List.mem_map.1 he
  rfl
 ·rw [flat_one AV.bool (fun _ => rfl), List.length_map, List.length_take, Nat.min_eq_left hl, List.drop_zero, Nat.mul_one, ← List.map_take]
theorem rep_step {l : List Bool} {N i : Nat} (hl : l.length = N) (hi : i < N) (h : l.take i = List.replicate i true) : (l.take i ++ ((l.take i).take (min (l.take i).length (N - i)) ++ l.drop (i + min (l.take i).length (N - i)))).length = N ∧ (l.take i ++ ((l.take i).take (min (l.take i).length (N - i)) ++ l.drop (i + min (l.take i).length (N - i)))).take (i + min (l.take i).length (N - i)) = List.replicate (i + min (l.take i).length (N - i)) true := by
 have h1 : (l.take i).length = i := by simp; omega
 rw [h1]
 have h2 : min i (N - i) ≤ i := Nat.min_le_left _ _
 refine ⟨by simp; omega, ?_⟩
 rw [← List.append_assoc, List.take_append_of_le_length (by simp; omega), h, List.take_replicate, List.replicate_append_replicate, List.take_of_length_le (by simp)]
 congr 1; omega
theorem c45 {N : Nat} (h1 : 1 ≤ N) (h64 : N ≤ 64) (hS : Hv H L) (hK : ∀ (v : AV) H', Hv H' (.own 1 v (List.map AV.bool (List.replicate N true)) :: L) → K v H') :
  ACall Try.prog B w0 45 [.dl 1 [.bool true] .full, .int .i64 (N : Int)] H K := by
 have hu : IntKind.u64.wrap (N : Int) = (N : Int) := wrap_u64 (by omega) (by omega)
 have hi6 : IntKind.i64.wrap (N : Int) = (N : Int) := wrap_i64 (by omega) (by omega)
 refine ACall.ret ?_
 refine ACall.enterK Try.f45 Try.func45 (by kernel_rfl) rfl (eawp_sound noY_sound _ _ _ _ ?_)
 have hF := True.intro
 have F := hS.facts
 have h0 := True.intro
 repeat' (first | ((with_reducible refine atEany ?_); first | refine pSeq rfl ?_ | refine pBlk rfl ?_ | refine pLoop rfl ?_ | refine pRange rfl ?_ | refine pDraw rfl ?_) | ((first
  | (clear h0)
  | ((with_reducible refine atGBr ?_); (refine Br.go2 (fun h => ?_) (fun h => ?_)) <;> replace hF := And.intro h hF)
  | ((with_reducible refine atGbr ?_); (refine branch_go2 (fun h => ?_) (fun h => ?_)) <;> replace hF := And.intro h hF)
  | ((with_reducible refine atEany ?_); first | refine pReg rfl ?_ | refine pCond rfl ?_ | refine pRet rfl ?_ | refine pExit rfl ?_ | refine pSkip rfl ?_)
  | ((with_reducible refine atF 77 ?_); refine ACall.wkN (fun H hS => c77 (n := 0) hS (mul64' h64) ?_) (WkA.same _) hS (by exact nD) ; intro H hS)
  | (refine makeO1 (d := false) (N := 64) (fun _ => rfl) ty86 rfl ty4 rfl rfl rfl rfl (by decide) (by decide) hS (by omega) ?_; intro v H hS; rcases split91 (fun _ => rfl) .here hS with ⟨hl, s9, hv⟩ | ⟨id, rfl, hS9⟩; (exfalso; simp at hl; omega); clear hS; have hS := hS9; clear hS9; simp only [List.length_replicate, Int.toNat_natCast] at hS ⊢)
  | (refine cpy_b (l := List.replicate N false) (ys := [true]) (.inl (by simp [srcA, ty86]; fail_if_success refine ?_)) (by (repeat first | exact pH | apply pT); fail_if_success refine ?_) hS (by simp; fail_if_success refine ?_) ?_; intro H hS; have hm : min [true].length N = 1 := Nat.min_eq_left h1; rw [hm] at hS ⊢)
  | ((with_reducible refine atLen ?_); refine len_v ty86 rfl rfl ?_)
  | ((with_reducible refine atLoop ?_); refine AWP.loopI (σ := Nat) 1 (fun i => [.k, .k, .k, .d, .d, .d, .d, .k, .p (.int .i64 (i : Nat)), .d, .d, .d, .d, .d, .d, .d, .d, .d, .d, .d, .d, .d, .d, .d, .d, .d, .d, .d, .d, .d, .d, .d, .d, .d, .d, .d, .d, .d, .d, .d, .d, .d, .d, .d, .d, .d, .d, .d]) (fun i H => 1 ≤ i ∧ i ≤ N ∧ ∃ l : List Bool, l.length = N ∧ l.take i = List.replicate i true ∧ Hv H (.obj id (.cells (List.map AV.bool l)) :: L)) (fun i => N - i) (by (repeat first | exact sZ | with_reducible apply sD | with_reducible apply sK | apply sP | apply sF | apply sN | apply sT)) ⟨by omega, h1, _, by simp; omega, by simp [List.replicate_succ], hS⟩ (fun i H hJ => ?_); obtain ⟨hi1, hil, l, hl, htk, hS⟩ := hJ; refine eawp_sound noY_sound _ _ _ _ ?_; simp only [applyS_d, applyS_k, applyS_p, applyS_nil])
  | (have hlt : i < N := (by simp at hF; omega); rw [if_pos (show i ≤ N by omega), if_neg (show ¬ (i = N ∧ ¬ i = 0) by omega)])
  | (rw [if_pos (show i ≤ N by omega)])
  | (refine cpy_b (l := l) (ys := l.take i) (src_b (by omega) (hS.each (.obj id _) (.head _))) (by (repeat first | exact pH | apply pT); fail_if_success refine ?_) hS (by omega) ?_; intro H hS)
  | ((with_reducible refine atEx ?_); have hst := rep_step hl (show i < N by simp at hF; omega) htk; have hmi : min (l.take i).length (N - i) = min i (N - i) := (by rw [List.length_take]; omega); rw [show IntKind.i64.wrap ((i : Int) + ((min (l.take i).length (N - i) : Nat) : Int)) = ((i + min (l.take i).length (N - i) : Nat) : Int) from by rw [hmi, wrap_i64 (by omega) (by omega)]; omega]; exact ⟨i + min (l.take i).length (N - i), by ((repeat first | exact sZ | with_reducible apply sD | with_reducible apply sK | apply sP | apply sF | apply sN | apply sT); fail_if_success refine ?_), ⟨by omega, by omega, _, hst.1, hst.2, hS⟩, by rw [hmi]; simp at hF; omega⟩)
  | ((with_reducible refine atRet ?_); refine RetK.here ?_; have e : i = N := (by simp at hF; omega); subst e; rw [List.take_of_length_le (by omega)] at htk; subst htk; exact hK _ _ (Hv.reown (id := id) (len := i) rfl .here (by simp) hS))
  | (exfalso; have hq := hF; simp at hq; omega)
  | ((with_reducible refine atDraw 9 ?_); refine AWP.draw noY_sound [[], [], [], [1, 2], [], [], [4, 5], [1, 2, 3, 4, 5, 6], [0, 1, 2, 3, 4, 5, 6, 7], [0, 1, 2, 3, 4, 5, 6, 7, 8]] [⟨0, false, []⟩, ⟨1, false, []⟩, ⟨2, false, []⟩, ⟨3, false, []⟩, ⟨4, false, []⟩, ⟨5, false, []⟩, ⟨6, false, []⟩, ⟨7, true, []⟩, ⟨8, false, []⟩, ⟨9, true, []⟩] [0, 1, 2, 3, 4, 5, 6, 7, 8, 9] [0, 1, 2, 3, 4, 5, 6, 7, 8, 9] (by kernel_rfl) ?_)) <;> (replace F := hS.facts; (try simp only [Facts_obj, Facts_tl, Facts_own, Facts_pool, Facts_mp] at F); try simp only [EVA, reduceIte, reduceCtorEq, Nat.reduceEqDiff, Nat.reduceLT, Nat.reduceLeDiff, Int.reduceEq, Int.reduceLT, Int.reduceLE, Nat.reduceMul, Int.reduceToNat, Nat.reduceAdd, Int.reduceAdd, Int.reduceSub, Int.reduceMul, Int.reduceNeg, Try.ntmps45, (show Try.f45.results.toList = [.tmp 4] from rfl), (show IntKind.i64.wrap 1 = 1 from rfl), (show IntKind.i64.wrap (-1) = -1 from rfl), natZ, hu, hi6, callE_copy, (show IntKind.u64.wrap 1 = 1 from rfl), hF, F])))
theorem c45i {x : Int} (h1 : 1 ≤ x) (h64 : x ≤ 64) (hS : Hv H L) (hK : ∀ (v : AV) H', Hv H' (.own 1 v (List.map AV.bool (List.replicate x.toNat true)) :: L) → K v H') :
  ACall Try.prog B w0 45 [.dl 1 [.bool true] .full, .int .i64 x] H K := by
 obtain ⟨N, rfl⟩ := Int.eq_ofNat_of_zero_le (show 0 ≤ x by omega)
 exact c45 (by omega) (by omega) hS (by simpa using hK)
theorem c10 {a0 a1 : Int} {r : Option PSt × Int} (hS : Hv H L) (hg : g10 n a0 a1 = some r) (hK0 : Option.isNone r.1 = true → ∀ H', Hv H' L → K (.tup [.nilp, .int .i64 r.2]) H')
  (hK1 : Option.isNone r.1 = false → ∀ (g : PG) (q0 : Nat) (H' : AHeap), Hv H' (poolI q0 g (Option.getD r.1 default) :: L) → K (.tup [.ptr q0 0, .int .i64 r.2]) H') : ACall Try.prog B w0 10 [.int .i64 a0, .int .i64 a1] H K := by
 obtain rfl := Option.some.inj hg
 refine ACall.ret ?_
 refine ACall.enterK Try.f10 Try.func10 (by kernel_rfl) rfl (eawp_sound noY_sound _ _ _ _ ?_)
 have hF := True.intro
 have F := hS.facts
 have h0 := True.intro
 repeat' (first | ((with_reducible refine atEany ?_); first | refine pSeq rfl ?_ | refine pBlk rfl ?_ | refine pLoop rfl ?_ | refine pRange rfl ?_ | refine pDraw rfl ?_) | ((first
  | (clear h0)
  | ((with_reducible refine atGBr ?_); (refine Br.go2 (fun h => ?_) (fun h => ?_)) <;> replace hF := And.intro h hF)
  | ((with_reducible refine atGbr ?_); (refine branch_go2 (fun h => ?_) (fun h => ?_)) <;> replace hF := And.intro h hF)
  | ((with_reducible refine atEany ?_); first | refine pReg rfl ?_ | refine pCond rfl ?_ | refine pRet rfl ?_ | refine pExit rfl ?_ | refine pSkip rfl ?_)
  | ((with_reducible refine atF 45 ?_); refine c45i (by simp at hF; omega) (by simp at hF; omega) hS ?_; intro v H hS)
  | (refine make_mp .i hS ?_; intro m H hS)
  | ((with_reducible refine atBox2 26 ?_); have o1 : AV.one (.map (some m)) = true := rfl; refine box_go (by simp only [okCells, AV.cells, List.all_cons, List.all_nil, F, oneInt, o1, isUndef, Bool.and_true, Bool.true_and, Bool.not_false, Bool.and_self]) hS ?_; intro o4 H hS; simp only [AV.cells] at hS)
  | ((with_reducible refine atRet ?_); have e : pNew a0 a1 = (none, 1) := (by unfold pNew maxI; exact if_pos (by simp at hF; omega)); rw [e] at hK0; exact RetK.here (hK0 rfl H hS))
  | ((with_reducible refine atRet ?_); have e : pNew a0 a1 = (some ⟨List.replicate a0.toNat true, a1, 0, []⟩, 0) := (by unfold pNew maxI; exact if_neg (by simp at hF; omega)); rw [e] at hK1; exact RetK.here (hK1 rfl ⟨m, v, [], []⟩ o4 H (Hv.cls (A := poolL o4 ⟨m, v, [], []⟩ ⟨List.replicate a0.toNat true, a1, 0, []⟩) ⟨rfl, .refl _, .nil, (by simp), (by simp), (by simp)⟩ (hS.need0 (by simp only [poolL, List.cons_append]; (repeat first | exact mD | (apply mT; (· (repeat first | exact pH | apply pT))) | (apply mV; (· assumption); (· (repeat first | exact pH | apply pT)); (· first | exact (by simp) | exact SzC.flat (fun _ => rfl) _)) | (apply mO; (· (repeat first | exact pH | apply pT)); (· first | exact (by simp) | exact SzC.flat (fun _ => rfl) _)) | apply mF | apply mE | apply mX))))))) <;> (replace F := hS.facts; (try simp only [Facts_obj, Facts_tl, Facts_own, Facts_pool, Facts_mp] at F); try simp only [EVA, reduceIte, reduceCtorEq, Nat.reduceEqDiff, Nat.reduceLT, Nat.reduceLeDiff, Int.reduceEq, Int.reduceLT, Int.reduceLE, Nat.reduceMul, Int.reduceToNat, Nat.reduceAdd, Int.reduceAdd, Int.reduceSub, Int.reduceMul, Int.reduceNeg, Try.ntmps10, (show Try.f10.results.toList = [.tmp 4, .tmp 5] from rfl), (show IntKind.i64.wrap 1 = 1 from rfl), (show IntKind.i64.wrap (-1) = -1 from rfl), eop_lookup, eop_mapUpdate, eop_range, eop_next, eop_entry, eop_makeMap, hF, F])))
end
end Go.Av
end
