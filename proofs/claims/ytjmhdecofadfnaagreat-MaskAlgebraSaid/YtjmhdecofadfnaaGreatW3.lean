/- the walks, part 3 -/
import Derived.Test.YtjmhdecofadfnaaGreatA13
import Derived.Test.YtjmhdecofadfnaaGreatW2
set_option autoImplicit false
set_option linter.unusedSimpArgs false
set_option linter.unusedVariables false
set_option linter.unnecessarySimpa false
section
set_option maxHeartbeats 8000000
set_option maxRecDepth 10000
namespace Go.Av
open Go.Proofs
/-- skymosaic/skymosaicref20.Valid -/
def l17_0 (n : Nat) (a0 : S5) : Nat → Int → Option (Int)
  | 0, _ => none
  | k5 + 1, x4 => if x4 < (a0.c2.length : Int) then (if (0 : Int) ≤ x4 ∧ x4 < (a0.c2.length : Int) then (if ((rd a0.c2 x4).c0) < 0 then (some 1) else (if a0.c1 ≤ ((rd a0.c2 x4).c0) then (some 1) else (if ((rd a0.c2 x4).c1) < 0 then (some 1) else (if ((rd a0.c2 x4).c2) ≤ ((rd a0.c2 x4).c1) then (some 1) else (if a0.c0 < ((rd a0.c2 x4).c2) then (some 1) else (if 0 < x4 then (if (0 : Int) ≤ (IntKind.i64.wrap (x4 - 1)) ∧ (IntKind.i64.wrap (x4 - 1)) < (a0.c2.length : Int) then (if ((rd a0.c2 x4).c0) < ((rd a0.c2 (IntKind.i64.wrap (x4 - 1))).c0) then (some 1) else (if (0 : Int) ≤ (IntKind.i64.wrap (x4 - 1)) ∧ (IntKind.i64.wrap (x4 - 1)) < (a0.c2.length : Int) then (if ((rd a0.c2 (IntKind.i64.wrap (x4 - 1))).c0) = ((rd a0.c2 x4).c0) then (if (0 : Int) ≤ (IntKind.i64.wrap (x4 - 1)) ∧ (IntKind.i64.wrap (x4 - 1)) < (a0.c2.length : Int) then (if ((rd a0.c2 x4).c1) ≤ ((rd a0.c2 (IntKind.i64.wrap (x4 - 1))).c2) then (some 1) else ((l17_0 n a0 k5) (IntKind.i64.wrap (x4 + 1)))) else none) else ((l17_0 n a0 k5) (IntKind.i64.wrap (x4 + 1)))) else none)) else none) else ((l17_0 n a0 k5) (IntKind.i64.wrap (x4 + 1))))))))) else none) else (some 0)
theorem rs17 : Tryz.f17.results.toList = [.tmp 2] := rfl
def g17 (n : Nat) (a0 : S5) : Option (Int) := (g46 n a0.c0 a0.c1).bind fun v2 => if v2 = true then (l17_0 n a0 n 0) else (some 1)
theorem c17 {B : Nat} {w0 : World} {n : Nat} {a0 : S5} {H : AHeap} {L : List Item} {K : AV → AHeap → Prop} {r : (Int)} (hS : Hv H (L)) (hg : g17 n a0 = some r) (hK : ∀ (H' : AHeap), Hv H' (L) → K (.int .i64 r) H') : ACall Tryz.prog B w0 17 [.agg [.int .i64 a0.c0, .int .i64 a0.c1, .dl 3 (List.map encS1 a0.c2) .none]] H K := by
  refine ACall.ret ?_
  unfold g17 at hg
  refine ACall.enter Tryz.func17 (by kernel_rfl) rfl (eawp_sound noY_sound _ _ _ _ ?_)
  (with_reducible refine atHide ?_); intro k9 hk9
  have hF := True.intro
  have F := hS.facts
  have h0 := True.intro
  repeat' (first | ((with_reducible refine atSeqH ?_); intro k9 hk9) | ((with_reducible refine atHidK (by assumption) ?_)) | ((with_reducible refine atBlkH ?_); intro k9 hk9) | (with_reducible refine atELoop ?_) | (with_reducible refine atERange ?_) | (with_reducible refine atEDraw ?_) | ((first
    | (clear h0)
    | (with_reducible exact noneE hg)
    | ((with_reducible refine Br.iteB hg (fun h hg => ?_) (fun h hg => ?_)) <;> replace hF := And.intro h hF)
    | ((with_reducible refine Br.iteP hg (fun h hg => ?_) (fun h hg => ?_)) <;> replace hF := And.intro h hF)
    | ((with_reducible refine branchB hg (fun h hg => ?_) (fun h hg => ?_)) <;> replace hF := And.intro h hF)
    | ((with_reducible refine atCondH ?_); intro k8 hk8 k9 hk9)
    | (with_reducible refine atEReg ?_)
    | (with_reducible refine atEExit ?_)
    | (with_reducible refine atERet ?_)
    | (with_reducible refine atESkip ?_)
    | ((with_reducible refine atBox2 1 ?_); refine box_go rfl hS ?_; intro o1 H hS; simp only [AV.cells] at hS)
    | ((with_reducible refine atF 46 ?_); (with_reducible replace hg := bind_some hg); obtain ⟨_, hc, hg⟩ := hg; refine ACall.wkN (fun H hS => c46 hS hc ?_) (by repeat first | exact aZ | apply aR | apply aF | apply aN | apply aT | refine aG (by (repeat first | exact kZ | apply kR | apply kF | apply kN | apply kE | apply kI | apply kT | apply kU)) ?_) hS (by repeat first | exact nD | (apply nT; (· (repeat first | exact pH | apply pT))) | (apply nW; (· (repeat first | exact pH | apply pT)); (· (repeat first | exact kZ | apply kR | apply kF | apply kN | apply kE | apply kI | apply kT | apply kU))) | apply nF | apply nX); intro  H hS)
    | ((with_reducible refine atEx ?_); exact ⟨_, _, by repeat first | exact sZ | with_reducible apply sD | with_reducible apply sK | apply sP | apply sF | apply sN | apply sT, hg, hS, by repeat first | exact nD | (apply nT; (· (repeat first | exact pH | apply pT))) | (apply nW; (· (repeat first | exact pH | apply pT)); (· (repeat first | exact kZ | apply kR | apply kF | apply kN | apply kE | apply kI | apply kT | apply kU))) | apply nF | apply nX⟩)
    | ((with_reducible refine atAlloc2 95 5 ?_); refine alloc_go ty95 rfl rfl hS ?_; intro o5 H hS; simp only [AV.cells] at hS)
    | ((with_reducible refine atSto 95 ?_); refine sto_go ty95 (by repeat first | exact pH | apply pT) hS (by rfl) (by rfl) (by exact Nat.le_of_ble_eq_true rfl) ?_; intro H hS; simp only [putA_nil, putA_0, putA_s, List.cons_append, List.nil_append, AV.cells, List.length_cons, List.length_nil, List.drop_succ_cons, List.drop_zero, Nat.reduceAdd] at hS)
    | ((with_reducible refine atDraw 10 ?_); refine AWP.draw noY_sound [[], [0], [0, 1], [0, 1, 2], [0, 1, 2, 3], [0, 1, 2], [0, 1, 2, 5], [0, 1, 2, 3, 4, 5, 6], [0, 1, 2, 3, 4, 5, 6, 7], [0, 1, 2, 3, 4, 5, 6, 7, 8], [0, 1, 2], [0, 1, 2, 10], [0, 1, 2, 3, 4, 5, 6, 7, 8, 9, 10, 11], [0, 1, 2, 3, 4, 5, 6, 7, 8, 9, 10, 11, 12], [0, 1, 2, 3, 4, 5, 6, 7, 8, 9, 10, 11, 12, 13], [0, 1, 2, 3, 4, 5, 6, 7, 8, 9, 10, 11, 12, 13, 14], [0, 1, 2, 3, 4, 5, 6, 7, 8, 9, 10, 11, 12, 13], [0, 1, 2, 3, 4, 5, 6, 7, 8, 9, 10, 11, 12, 13, 16], [0, 1, 2, 3, 4, 5, 6, 7, 8, 9, 10, 11, 12, 13, 14, 15, 16, 17], [0, 1, 2, 3, 4, 5, 6, 7, 8, 9, 10, 11, 12, 13, 14, 15, 16, 17, 18], [0, 1, 2, 3, 4, 5, 6, 7, 8, 9, 10, 11, 12, 13, 14, 15, 16, 17, 18, 19], [0, 1, 2, 3, 4, 5, 6, 7, 8, 9, 10, 11, 12, 13], [0, 1, 2, 3, 4, 5, 6, 7, 8, 9, 10, 11, 12, 13, 21], [0, 1, 2, 3, 4, 5, 6, 7, 8, 9, 10, 11, 12, 13, 14, 15, 16, 17, 18, 19, 20, 21, 22], [0, 1, 2, 3, 4, 5, 6, 7, 8, 9, 10, 11, 12, 13, 14, 15, 16, 17, 18, 19, 20, 21, 22, 23], [0, 1, 2, 3, 4, 5, 6, 7, 8, 9, 10, 11, 12, 13, 14, 15, 16, 17, 18, 19, 20, 21, 22, 23, 24], [0, 1, 2, 3, 4, 5, 6, 7, 8, 9, 10, 11, 12, 13, 14, 15, 16, 17, 18, 19, 20, 21, 22, 23, 24, 25], [0, 1, 2, 3, 4, 5, 6, 7, 8, 9, 10, 11, 12, 13, 14, 15, 16, 17, 18, 19, 20, 21, 22, 23, 24], [0, 1, 2, 3, 4, 5, 6, 7, 8, 9, 10, 11, 12, 13, 14, 15, 16, 17, 18, 19, 20, 21, 22, 23, 24, 27], [0, 1, 2, 3, 4, 5, 6, 7, 8, 9, 10, 11, 12, 13, 14, 15, 16, 17, 18, 19, 20, 21, 22, 23, 24, 25, 26, 27, 28], [0, 1, 2, 3, 4, 5, 6, 7, 8, 9, 10, 11, 12, 13, 14, 15, 16, 17, 18, 19, 20, 21, 22, 23, 24, 25, 26, 27, 28, 29], [0, 1, 2, 3, 4, 5, 6, 7, 8, 9, 10, 11, 12, 13, 14, 15, 16, 17, 18, 19, 20, 21, 22, 23, 24, 25, 26, 27, 28, 29, 30], [0, 1, 2, 3, 4, 5, 6, 7, 8, 9, 10, 11, 12, 13, 14, 15, 16, 17, 18, 19, 20, 21, 22, 23, 24], [0, 1, 2, 3, 4, 5, 6, 7, 8, 9, 10, 11, 12, 13, 14, 15, 16, 17, 18, 19, 20, 21, 22, 23, 24, 32], [0, 1, 2, 3, 4, 5, 6, 7, 8, 9, 10, 11, 12, 13, 14, 15, 16, 17, 18, 19, 20, 21, 22, 23, 24, 25, 26, 27, 28, 29, 30, 31, 32, 33], [0, 1, 2, 3, 4, 5, 6, 7, 8, 9, 10, 11, 12, 13, 14, 15, 16, 17, 18, 19, 20, 21, 22, 23, 24, 25, 26, 27, 28, 29, 30, 31, 32, 33, 34], [0, 1, 2, 3, 4, 5, 6, 7, 8, 9, 10, 11, 12, 13, 14, 15, 16, 17, 18, 19, 20, 21, 22, 23, 24, 25, 26, 27, 28, 29, 30, 31, 32, 33, 34, 35], [0, 1, 2, 3, 4, 5, 6, 7, 8, 9, 10, 11, 12, 13, 14, 15, 16, 17, 18, 19, 20, 21, 22, 23, 24, 25, 26, 27, 28, 29, 30, 31, 32, 33, 34, 35, 36]] [⟨0, false, []⟩, ⟨1, false, []⟩, ⟨2, false, []⟩, ⟨3, false, []⟩, ⟨4, false, []⟩, ⟨5, false, []⟩, ⟨6, false, []⟩, ⟨7, false, []⟩, ⟨8, false, []⟩, ⟨9, false, []⟩, ⟨10, false, []⟩, ⟨11, false, []⟩, ⟨12, false, []⟩, ⟨13, false, []⟩, ⟨14, false, []⟩, ⟨15, false, []⟩, ⟨16, false, []⟩, ⟨17, false, []⟩, ⟨18, false, []⟩, ⟨19, false, []⟩, ⟨20, false, []⟩, ⟨21, false, []⟩, ⟨22, false, []⟩, ⟨23, false, []⟩, ⟨24, false, []⟩, ⟨25, false, []⟩, ⟨26, false, []⟩, ⟨27, false, []⟩, ⟨28, false, []⟩, ⟨29, false, []⟩, ⟨30, false, []⟩, ⟨31, false, []⟩, ⟨32, false, []⟩, ⟨33, false, []⟩, ⟨34, false, []⟩, ⟨35, false, []⟩, ⟨36, false, []⟩, ⟨37, false, []⟩] [0, 1, 2, 3, 4, 5, 6, 7, 8, 9, 10, 11, 12, 13, 14, 15, 16, 17, 18, 19, 20, 21, 22, 23, 24, 25, 26, 27, 28, 29, 30, 31, 32, 33, 34, 35, 36, 37] [0, 1, 2, 3, 4, 5, 6, 7, 8, 9, 10, 11, 12, 13, 14, 15, 16, 17, 18, 19, 20, 21, 22, 23, 24, 25, 26, 27, 28, 29, 30, 31, 32, 33, 34, 35, 36, 37] (by kernel_rfl) ?_)
    | ((with_reducible refine atLoop ?_); (with_reducible refine pickL hg (rfl : _ = l17_0 n _ n _) ?_); refine AWP.loopE (σ := Int) _ ((fun (f : Nat → Int → Option (Int)) k (s : Int) => f k s) (l17_0 n _)) (fun s => [.d, .k, .d, .d, .p (.int .i64 s), .d, .d, .d, .d, .d, .d, .d, .d, .d, .d, .d, .d, .d, .d, .d, .d, .d, .d, .d, .d, .d, .d, .d, .d, .d, .d, .d, .d, .d, .d, .d, .d, .d, .d, .d, .d, .d, .d, .d, .d, .d, .d, .d, .d, .d, .d, .d, .d, .d, .d, .d, .d, .d, .d, .d, .d, .d, .d, .d, .d, .d, .d, .d, .d, .d, .d, .d, .d, .d, .d, .d, .d, .d, .d, .d, .d, .d, .d, .d, .d, .d, .d, .d, .d, .d, .d, .d]) ((fun c0 c1 c2 (s : Int) => .obj o1 (.cells [c0, c1, c2]) :: L) _ _ _) hg (by repeat first | exact sZ | with_reducible apply sD | with_reducible apply sK | apply sP | apply sF | apply sN | apply sT) hS (by repeat first | exact nD | (apply nT; (· (repeat first | exact pH | apply pT))) | (apply nW; (· (repeat first | exact pH | apply pT)); (· (repeat first | exact kZ | apply kR | apply kF | apply kN | apply kE | apply kI | apply kT | apply kU))) | apply nF | apply nX) (fun _ => rfl) ?_; rintro k x4 H hg hS; (try dsimp only at hg); (try dsimp only at hS); rw [l17_0] at hg; refine eawp_sound noY_sound _ _ _ _ ?_; (with_reducible refine atHide ?_); intro k9 hk9; simp only [applyS_d, applyS_k, applyS_p, applyS_nil])
    | ((with_reducible refine atRet ?_); (with_reducible replace hg := Option.some.inj hg); subst hg; exact (RetK.go (hK ) (by first | exact rR | exact rT | exact rF | exact rN | exact rG (by repeat first | exact kZ | apply kR | apply kF | apply kN | apply kE | apply kI | apply kT | apply kU) | exact rU (by repeat first | exact aZ | apply aR | apply aF | apply aN | apply aT | refine aG (by (repeat first | exact kZ | apply kR | apply kF | apply kN | apply kE | apply kI | apply kT | apply kU)) ?_)) hS (by repeat first | exact nD | (apply nT; (· (repeat first | exact pH | apply pT))) | (apply nW; (· (repeat first | exact pH | apply pT)); (· (repeat first | exact kZ | apply kR | apply kF | apply kN | apply kE | apply kI | apply kT | apply kU))) | apply nF | apply nX)))
    | (simp only [hF, reduceIte] at hg)) <;> ((repeat ((with_reducible first | replace hg := guardN hg | replace hg := guardS3 hg | replace hg := guardS2 hg | replace hg := guardS1 hg | replace hg := gd4 hg | replace hg := gd3 hg | replace hg := gd2 hg | replace hg := gd1 hg); obtain ⟨h, hg⟩ := hg; replace hF := And.intro h hF)); replace F := hS.facts; (try simp only [Facts_obj, Facts_tl, Facts_own] at F); try simp only [EVA, reduceIte, reduceCtorEq, Nat.reduceLT, Nat.reduceLeDiff, Int.reduceEq, Int.reduceLT, Int.reduceLE, Nat.reduceMul, Int.reduceToNat, Nat.reduceAdd, Int.reduceAdd, Int.reduceSub, Int.reduceMul, Int.reduceNeg, Tryz.ntmps17, rs17, (show IntKind.i64.wrap 1 = 1 from rfl), hF, F])))
/-- skymosaic/mask.Count -/
def l18_0 (n : Nat) (a0 : S5) : Nat → Int → Int → Option (Int)
  | 0, _, _ => none
  | k7 + 1, x5, x6 => if x6 < (a0.c2.length : Int) then (if (0 : Int) ≤ x6 ∧ x6 < (a0.c2.length : Int) then ((l18_0 n a0 k7) (IntKind.i64.wrap (x5 + (IntKind.i64.wrap (((rd a0.c2 x6).c2) - ((rd a0.c2 x6).c1))))) (IntKind.i64.wrap (x6 + 1))) else none) else (some x5)
theorem rs18 : Tryz.f18.results.toList = [.tmp 2] := rfl
def g18 (n : Nat) (a0 : S5) : Option (Int) := (g16 n (⟨a0.c0, a0.c1, a0.c2⟩ : S5)).bind fun v2 => if v2 = 0 then (l18_0 n a0 n 0 0) else (some 0)
theorem c18 {B : Nat} {w0 : World} {n : Nat} {a0 : S5} {H : AHeap} {L : List Item} {K : AV → AHeap → Prop} {r : (Int)} (hS : Hv H (L)) (hg : g18 n a0 = some r) (hK : ∀ (H' : AHeap), Hv H' (L) → K (.int .i64 r) H') : ACall Tryz.prog B w0 18 [.agg [.int .i64 a0.c0, .int .i64 a0.c1, .dl 3 (List.map encS1 a0.c2) .none]] H K := by
  refine ACall.ret ?_
  unfold g18 at hg
  refine ACall.enter Tryz.func18 (by kernel_rfl) rfl (eawp_sound noY_sound _ _ _ _ ?_)
  (with_reducible refine atHide ?_); intro k9 hk9
  have hF := True.intro
  have F := hS.facts
  have h0 := True.intro
  repeat' (first | ((with_reducible refine atSeqH ?_); intro k9 hk9) | ((with_reducible refine atHidK (by assumption) ?_)) | ((with_reducible refine atBlkH ?_); intro k9 hk9) | (with_reducible refine atELoop ?_) | (with_reducible refine atERange ?_) | (with_reducible refine atEDraw ?_) | ((first
    | (clear h0)
    | (with_reducible exact noneE hg)
    | ((with_reducible refine Br.iteB hg (fun h hg => ?_) (fun h hg => ?_)) <;> replace hF := And.intro h hF)
    | ((with_reducible refine Br.iteP hg (fun h hg => ?_) (fun h hg => ?_)) <;> replace hF := And.intro h hF)
    | ((with_reducible refine branchB hg (fun h hg => ?_) (fun h hg => ?_)) <;> replace hF := And.intro h hF)
    | ((with_reducible refine atCondH ?_); intro k8 hk8 k9 hk9)
    | (with_reducible refine atEReg ?_)
    | (with_reducible refine atEExit ?_)
    | (with_reducible refine atERet ?_)
    | (with_reducible refine atESkip ?_)
    | ((with_reducible refine atBox2 1 ?_); refine box_go rfl hS ?_; intro o1 H hS; simp only [AV.cells] at hS)
    | ((with_reducible refine atF 16 ?_); (with_reducible replace hg := bind_some hg); obtain ⟨_, hc, hg⟩ := hg; refine ACall.wkN (fun H hS => c16 hS hc ?_) (by repeat first | exact aZ | apply aR | apply aF | apply aN | apply aT | refine aG (by (repeat first | exact kZ | apply kR | apply kF | apply kN | apply kE | apply kI | apply kT | apply kU)) ?_) hS (by repeat first | exact nD | (apply nT; (· (repeat first | exact pH | apply pT))) | (apply nW; (· (repeat first | exact pH | apply pT)); (· (repeat first | exact kZ | apply kR | apply kF | apply kN | apply kE | apply kI | apply kT | apply kU))) | apply nF | apply nX); intro  H hS)
    | ((with_reducible refine atEx ?_); exact ⟨⟨_, _⟩, _, by repeat first | exact sZ | with_reducible apply sD | with_reducible apply sK | apply sP | apply sF | apply sN | apply sT, hg, hS, by repeat first | exact nD | (apply nT; (· (repeat first | exact pH | apply pT))) | (apply nW; (· (repeat first | exact pH | apply pT)); (· (repeat first | exact kZ | apply kR | apply kF | apply kN | apply kE | apply kI | apply kT | apply kU))) | apply nF | apply nX⟩)
    | ((with_reducible refine atAlloc2 95 5 ?_); refine alloc_go ty95 rfl rfl hS ?_; intro o5 H hS; simp only [AV.cells] at hS)
    | ((with_reducible refine atSto 95 ?_); refine sto_go ty95 (by repeat first | exact pH | apply pT) hS (by rfl) (by rfl) (by exact Nat.le_of_ble_eq_true rfl) ?_; intro H hS; simp only [putA_nil, putA_0, putA_s, List.cons_append, List.nil_append, AV.cells, List.length_cons, List.length_nil, List.drop_succ_cons, List.drop_zero, Nat.reduceAdd] at hS)
    | ((with_reducible refine atLoop ?_); (with_reducible refine pickL hg (rfl : _ = l18_0 n _ n _ _) ?_); refine AWP.loopE (σ := Int × Int) ⟨_, _⟩ ((fun (f : Nat → Int → Int → Option (Int)) k (s : Int × Int) => f k s.1 s.2) (l18_0 n _)) (fun s => [.d, .d, .d, .p (.int .i64 s.1), .d, .d, .d, .d, .d, .d, .k, .k, .p (.int .i64 s.2), .d, .d, .d, .d, .d, .d, .d, .d, .d, .d, .d, .d]) ((fun c0 c1 c2 (s : Int × Int) => .obj o1 (.cells [c0, c1, c2]) :: L) _ _ _) hg (by repeat first | exact sZ | with_reducible apply sD | with_reducible apply sK | apply sP | apply sF | apply sN | apply sT) hS (by repeat first | exact nD | (apply nT; (· (repeat first | exact pH | apply pT))) | (apply nW; (· (repeat first | exact pH | apply pT)); (· (repeat first | exact kZ | apply kR | apply kF | apply kN | apply kE | apply kI | apply kT | apply kU))) | apply nF | apply nX) (fun _ => rfl) ?_; rintro k ⟨x5, x6⟩ H hg hS; (try dsimp only at hg); (try dsimp only at hS); rw [l18_0] at hg; refine eawp_sound noY_sound _ _ _ _ ?_; (with_reducible refine atHide ?_); intro k9 hk9; simp only [applyS_d, applyS_k, applyS_p, applyS_nil])
    | ((with_reducible refine atRet ?_); (with_reducible replace hg := Option.some.inj hg); subst hg; exact (RetK.go (hK ) (by first | exact rR | exact rT | exact rF | exact rN | exact rG (by repeat first | exact kZ | apply kR | apply kF | apply kN | apply kE | apply kI | apply kT | apply kU) | exact rU (by repeat first | exact aZ | apply aR | apply aF | apply aN | apply aT | refine aG (by (repeat first | exact kZ | apply kR | apply kF | apply kN | apply kE | apply kI | apply kT | apply kU)) ?_)) hS (by repeat first | exact nD | (apply nT; (· (repeat first | exact pH | apply pT))) | (apply nW; (· (repeat first | exact pH | apply pT)); (· (repeat first | exact kZ | apply kR | apply kF | apply kN | apply kE | apply kI | apply kT | apply kU))) | apply nF | apply nX)))
    | (simp only [hF, reduceIte] at hg)) <;> ((repeat ((with_reducible first | replace hg := guardN hg | replace hg := guardS3 hg | replace hg := guardS2 hg | replace hg := guardS1 hg | replace hg := gd4 hg | replace hg := gd3 hg | replace hg := gd2 hg | replace hg := gd1 hg); obtain ⟨h, hg⟩ := hg; replace hF := And.intro h hF)); replace F := hS.facts; (try simp only [Facts_obj, Facts_tl, Facts_own] at F); try simp only [EVA, reduceIte, reduceCtorEq, Nat.reduceLT, Nat.reduceLeDiff, Int.reduceEq, Int.reduceLT, Int.reduceLE, Nat.reduceMul, Int.reduceToNat, Nat.reduceAdd, Int.reduceAdd, Int.reduceSub, Int.reduceMul, Int.reduceNeg, Tryz.ntmps18, rs18, (show IntKind.i64.wrap 1 = 1 from rfl), hF, F])))
/-- skymosaic/skymosaicref20.Count -/
def l19_0 (n : Nat) (a0 : S5) : Nat → Int → Int → Option (Int)
  | 0, _, _ => none
  | k7 + 1, x5, x6 => if x6 < (a0.c2.length : Int) then (if (0 : Int) ≤ x6 ∧ x6 < (a0.c2.length : Int) then (if (0 : Int) ≤ x6 ∧ x6 < (a0.c2.length : Int) then ((l19_0 n a0 k7) (IntKind.i64.wrap ((IntKind.i64.wrap (x5 + ((rd a0.c2 x6).c2))) - ((rd a0.c2 x6).c1))) (IntKind.i64.wrap (x6 + 1))) else none) else none) else (some x5)
theorem rs19 : Tryz.f19.results.toList = [.tmp 2] := rfl
def g19 (n : Nat) (a0 : S5) : Option (Int) := (g17 n (⟨a0.c0, a0.c1, a0.c2⟩ : S5)).bind fun v2 => if v2 = 0 then (l19_0 n a0 n 0 0) else (some 0)
theorem c19 {B : Nat} {w0 : World} {n : Nat} {a0 : S5} {H : AHeap} {L : List Item} {K : AV → AHeap → Prop} {r : (Int)} (hS : Hv H (L)) (hg : g19 n a0 = some r) (hK : ∀ (H' : AHeap), Hv H' (L) → K (.int .i64 r) H') : ACall Tryz.prog B w0 19 [.agg [.int .i64 a0.c0, .int .i64 a0.c1, .dl 3 (List.map encS1 a0.c2) .none]] H K := by
  refine ACall.ret ?_
  unfold g19 at hg
  refine ACall.enter Tryz.func19 (by kernel_rfl) rfl (eawp_sound noY_sound _ _ _ _ ?_)
  (with_reducible refine atHide ?_); intro k9 hk9
  have hF := True.intro
  have F := hS.facts
  have h0 := True.intro
  repeat' (first | ((with_reducible refine atSeqH ?_); intro k9 hk9) | ((with_reducible refine atHidK (by assumption) ?_)) | ((with_reducible refine atBlkH ?_); intro k9 hk9) | (with_reducible refine atELoop ?_) | (with_reducible refine atERange ?_) | (with_reducible refine atEDraw ?_) | ((first
    | (clear h0)
    | (with_reducible exact noneE hg)
    | ((with_reducible refine Br.iteB hg (fun h hg => ?_) (fun h hg => ?_)) <;> replace hF := And.intro h hF)
    | ((with_reducible refine Br.iteP hg (fun h hg => ?_) (fun h hg => ?_)) <;> replace hF := And.intro h hF)
    | ((with_reducible refine branchB hg (fun h hg => ?_) (fun h hg => ?_)) <;> replace hF := And.intro h hF)
    | ((with_reducible refine atCondH ?_); intro k8 hk8 k9 hk9)
    | (with_reducible refine atEReg ?_)
    | (with_reducible refine atEExit ?_)
    | (with_reducible refine atERet ?_)
    | (with_reducible refine atESkip ?_)
    | ((with_reducible refine atBox2 1 ?_); refine box_go rfl hS ?_; intro o1 H hS; simp only [AV.cells] at hS)
    | ((with_reducible refine atF 17 ?_); (with_reducible replace hg := bind_some hg); obtain ⟨_, hc, hg⟩ := hg; refine ACall.wkN (fun H hS => c17 hS hc ?_) (by repeat first | exact aZ | apply aR | apply aF | apply aN | apply aT | refine aG (by (repeat first | exact kZ | apply kR | apply kF | apply kN | apply kE | apply kI | apply kT | apply kU)) ?_) hS (by repeat first | exact nD | (apply nT; (· (repeat first | exact pH | apply pT))) | (apply nW; (· (repeat first | exact pH | apply pT)); (· (repeat first | exact kZ | apply kR | apply kF | apply kN | apply kE | apply kI | apply kT | apply kU))) | apply nF | apply nX); intro  H hS)
    | ((with_reducible refine atEx ?_); exact ⟨⟨_, _⟩, _, by repeat first | exact sZ | with_reducible apply sD | with_reducible apply sK | apply sP | apply sF | apply sN | apply sT, hg, hS, by repeat first | exact nD | (apply nT; (· (repeat first | exact pH | apply pT))) | (apply nW; (· (repeat first | exact pH | apply pT)); (· (repeat first | exact kZ | apply kR | apply kF | apply kN | apply kE | apply kI | apply kT | apply kU))) | apply nF | apply nX⟩)
    | ((with_reducible refine atDraw 7 ?_); refine AWP.draw noY_sound [[], [], [1], [], [1, 2, 3], [1, 2, 3, 4], [1, 2, 3, 4, 5], [0, 1, 2, 3, 4, 5, 6], [], [8], [], [8, 9, 10], [8, 9, 10, 11], [8, 9, 10, 11, 12], [0, 1, 2, 3, 4, 5, 6, 7, 8, 9, 10, 11, 12, 13], [0, 1, 2, 3, 4, 5, 6, 7, 8, 9, 10, 11, 12, 13, 14]] [⟨0, false, []⟩, ⟨1, false, []⟩, ⟨2, false, []⟩, ⟨3, false, []⟩, ⟨4, false, []⟩, ⟨5, false, []⟩, ⟨6, false, []⟩, ⟨7, false, []⟩, ⟨8, false, []⟩, ⟨9, false, []⟩, ⟨10, false, []⟩, ⟨11, false, []⟩, ⟨12, false, []⟩, ⟨13, false, []⟩, ⟨14, false, []⟩, ⟨15, true, []⟩] [0, 1, 2, 3, 4, 5, 6, 7, 8, 9, 10, 11, 12, 13, 14, 15] [0, 1, 2, 3, 4, 5, 6, 7, 8, 9, 10, 11, 12, 13, 14, 15] (by kernel_rfl) ?_)
    | ((with_reducible refine atLoop ?_); (with_reducible refine pickL hg (rfl : _ = l19_0 n _ n _ _) ?_); refine AWP.loopE (σ := Int × Int) ⟨_, _⟩ ((fun (f : Nat → Int → Int → Option (Int)) k (s : Int × Int) => f k s.1 s.2) (l19_0 n _)) (fun s => [.d, .k, .d, .p (.int .i64 s.1), .p (.int .i64 s.2), .d, .d, .d, .d, .d, .d, .d, .d, .d, .d, .d, .d, .d, .d, .d, .d, .d, .d, .d, .d, .d, .d, .d, .d, .d, .d]) ((fun c0 c1 c2 (s : Int × Int) => .obj o1 (.cells [c0, c1, c2]) :: L) _ _ _) hg (by repeat first | exact sZ | with_reducible apply sD | with_reducible apply sK | apply sP | apply sF | apply sN | apply sT) hS (by repeat first | exact nD | (apply nT; (· (repeat first | exact pH | apply pT))) | (apply nW; (· (repeat first | exact pH | apply pT)); (· (repeat first | exact kZ | apply kR | apply kF | apply kN | apply kE | apply kI | apply kT | apply kU))) | apply nF | apply nX) (fun _ => rfl) ?_; rintro k ⟨x5, x6⟩ H hg hS; (try dsimp only at hg); (try dsimp only at hS); rw [l19_0] at hg; refine eawp_sound noY_sound _ _ _ _ ?_; (with_reducible refine atHide ?_); intro k9 hk9; simp only [applyS_d, applyS_k, applyS_p, applyS_nil])
    | ((with_reducible refine atRet ?_); (with_reducible replace hg := Option.some.inj hg); subst hg; exact (RetK.go (hK ) (by first | exact rR | exact rT | exact rF | exact rN | exact rG (by repeat first | exact kZ | apply kR | apply kF | apply kN | apply kE | apply kI | apply kT | apply kU) | exact rU (by repeat first | exact aZ | apply aR | apply aF | apply aN | apply aT | refine aG (by (repeat first | exact kZ | apply kR | apply kF | apply kN | apply kE | apply kI | apply kT | apply kU)) ?_)) hS (by repeat first | exact nD | (apply nT; (· (repeat first | exact pH | apply pT))) | (apply nW; (· (repeat first | exact pH | apply pT)); (· (repeat first | exact kZ | apply kR | apply kF | apply kN | apply kE | apply kI | apply kT | apply kU))) | apply nF | apply nX)))
    | (simp only [hF, reduceIte] at hg)) <;> ((repeat ((with_reducible first | replace hg := guardN hg | replace hg := guardS3 hg | replace hg := guardS2 hg | replace hg := guardS1 hg | replace hg := gd4 hg | replace hg := gd3 hg | replace hg := gd2 hg | replace hg := gd1 hg); obtain ⟨h, hg⟩ := hg; replace hF := And.intro h hF)); replace F := hS.facts; (try simp only [Facts_obj, Facts_tl, Facts_own] at F); try simp only [EVA, reduceIte, reduceCtorEq, Nat.reduceLT, Nat.reduceLeDiff, Int.reduceEq, Int.reduceLT, Int.reduceLE, Nat.reduceMul, Int.reduceToNat, Nat.reduceAdd, Int.reduceAdd, Int.reduceSub, Int.reduceMul, Int.reduceNeg, Tryz.ntmps19, rs19, (show IntKind.i64.wrap 1 = 1 from rfl), hF, F])))
/-- skymosaic/mask.Has$1 -/
theorem rs57_0 : Tryz.f57.results.toList = [.tmp 4] := rfl
def g57_0 (n : Nat) (a0 : S1) (a1 : Int) (a2 : Int) : Option (Bool) := if a0.c0 = a1 then (if a0.c1 ≤ a2 then (some (decide (a2 < a0.c2))) else (some false)) else (some false)
theorem c57_0 {B : Nat} {w0 : World} {n : Nat} {a0 : S1} {a1 : Int} {a2 : Int} {pa1 : Nat} {pa2 : Nat} {H : AHeap} {L : List Item} {K : AV → AHeap → Prop} {r : (Bool)} (hS : Hv H (.obj pa1 (.cells ([.int .i64 a1])) :: .obj pa2 (.cells ([.int .i64 a2])) :: L)) (hg : g57_0 n a0 a1 a2 = some r) (hK : ∀ (H' : AHeap), Hv H' (.obj pa1 (.cells ([.int .i64 a1])) :: .obj pa2 (.cells ([.int .i64 a2])) :: L) → K (.bool r) H') : ACall Tryz.prog B w0 57 [.agg [.int .i64 a0.c0, .int .i64 a0.c1, .int .i64 a0.c2], .ptr pa1 0, .ptr pa2 0] H K := by
  refine ACall.ret ?_
  unfold g57_0 at hg
  refine ACall.enter Tryz.func57 (by kernel_rfl) rfl (eawp_sound noY_sound _ _ _ _ ?_)
  (with_reducible refine atHide ?_); intro k9 hk9
  have hF := True.intro
  have F := hS.facts
  have h0 := True.intro
  repeat' (first | ((with_reducible refine atSeqH ?_); intro k9 hk9) | ((with_reducible refine atHidK (by assumption) ?_)) | ((with_reducible refine atBlkH ?_); intro k9 hk9) | (with_reducible refine atELoop ?_) | (with_reducible refine atERange ?_) | (with_reducible refine atEDraw ?_) | ((first
    | (clear h0)
    | (with_reducible exact noneE hg)
    | ((with_reducible refine Br.iteB hg (fun h hg => ?_) (fun h hg => ?_)) <;> replace hF := And.intro h hF)
    | ((with_reducible refine Br.iteP hg (fun h hg => ?_) (fun h hg => ?_)) <;> replace hF := And.intro h hF)
    | ((with_reducible refine branchB hg (fun h hg => ?_) (fun h hg => ?_)) <;> replace hF := And.intro h hF)
    | ((with_reducible refine atCondH ?_); intro k8 hk8 k9 hk9)
    | (with_reducible refine atEReg ?_)
    | (with_reducible refine atEExit ?_)
    | (with_reducible refine atERet ?_)
    | (with_reducible refine atESkip ?_)
    | ((with_reducible refine atBox2 3 ?_); refine box_go rfl hS ?_; intro o3 H hS; simp only [AV.cells] at hS)
    | ((with_reducible refine atRet ?_); (with_reducible replace hg := Option.some.inj hg); subst hg; exact (RetK.go (hK ) (by first | exact rR | exact rT | exact rF | exact rN | exact rG (by repeat first | exact kZ | apply kR | apply kF | apply kN | apply kE | apply kI | apply kT | apply kU) | exact rU (by repeat first | exact aZ | apply aR | apply aF | apply aN | apply aT | refine aG (by (repeat first | exact kZ | apply kR | apply kF | apply kN | apply kE | apply kI | apply kT | apply kU)) ?_)) hS (by repeat first | exact nD | (apply nT; (· (repeat first | exact pH | apply pT))) | (apply nW; (· (repeat first | exact pH | apply pT)); (· (repeat first | exact kZ | apply kR | apply kF | apply kN | apply kE | apply kI | apply kT | apply kU))) | apply nF | apply nX)))
    | (simp only [hF, reduceIte] at hg)) <;> ((repeat ((with_reducible first | replace hg := guardN hg | replace hg := guardS3 hg | replace hg := guardS2 hg | replace hg := guardS1 hg | replace hg := gd4 hg | replace hg := gd3 hg | replace hg := gd2 hg | replace hg := gd1 hg); obtain ⟨h, hg⟩ := hg; replace hF := And.intro h hF)); replace F := hS.facts; (try simp only [Facts_obj, Facts_tl, Facts_own] at F); try simp only [EVA, reduceIte, reduceCtorEq, Nat.reduceLT, Nat.reduceLeDiff, Int.reduceEq, Int.reduceLT, Int.reduceLE, Nat.reduceMul, Int.reduceToNat, Nat.reduceAdd, Int.reduceAdd, Int.reduceSub, Int.reduceMul, Int.reduceNeg, Tryz.ntmps57, rs57_0, hF, F])))
/-- slices.IndexFunc[[]skymosaic/api.Run,skymosaic/api.Run] -/
def l104_0_0 (n : Nat) (a0 : List S1) (a1c0 : Int) (a1c1 : Int) : Nat → Int → Option (Int)
  | 0, _ => none
  | k2 + 1, x1 => if x1 < (a0.length : Int) then (if (0 : Int) ≤ x1 ∧ x1 < (a0.length : Int) then ((g57_0 n (⟨(rd a0 x1).c0, (rd a0 x1).c1, (rd a0 x1).c2⟩ : S1) a1c0 a1c1).bind fun v7 => if v7 = true then (some x1) else ((l104_0_0 n a0 a1c0 a1c1 k2) (IntKind.i64.wrap (x1 + 1)))) else none) else (some (-1))
theorem rs104_0 : Tryz.f104.results.toList = [.tmp 4] := rfl
def g104_0 (n : Nat) (a0 : List S1) (a1c0 : Int) (a1c1 : Int) : Option (Int) := l104_0_0 n a0 a1c0 a1c1 n 0
theorem c104_0 {B : Nat} {w0 : World} {n : Nat} {a0 : List S1} {a1c0 : Int} {a1c1 : Int} {ta0 : Tail} {pa1c0 : Nat} {pa1c1 : Nat} {H : AHeap} {L : List Item} {K : AV → AHeap → Prop} {r : (Int)} (hS : Hv H (.obj pa1c0 (.cells ([.int .i64 a1c0])) :: .obj pa1c1 (.cells ([.int .i64 a1c1])) :: L)) (hg : g104_0 n a0 a1c0 a1c1 = some r) (hK : ∀ (H' : AHeap), Hv H' (.obj pa1c0 (.cells ([.int .i64 a1c0])) :: .obj pa1c1 (.cells ([.int .i64 a1c1])) :: L) → K (.int .i64 r) H') : ACall Tryz.prog B w0 104 [.dl 3 (List.map encS1 a0) ta0, .fn (.func 57) [] [.ptr pa1c0 0, .ptr pa1c1 0]] H K := by
  refine ACall.ret ?_
  unfold g104_0 at hg
  refine ACall.enter Tryz.func104 (by kernel_rfl) rfl (eawp_sound noY_sound _ _ _ _ ?_)
  (with_reducible refine atHide ?_); intro k9 hk9
  have hF := True.intro
  have F := hS.facts
  have h0 := True.intro
  repeat' (first | ((with_reducible refine atSeqH ?_); intro k9 hk9) | ((with_reducible refine atHidK (by assumption) ?_)) | ((with_reducible refine atBlkH ?_); intro k9 hk9) | (with_reducible refine atELoop ?_) | (with_reducible refine atERange ?_) | (with_reducible refine atEDraw ?_) | ((first
    | (clear h0)
    | (with_reducible exact noneE hg)
    | ((with_reducible refine Br.iteB hg (fun h hg => ?_) (fun h hg => ?_)) <;> replace hF := And.intro h hF)
    | ((with_reducible refine Br.iteP hg (fun h hg => ?_) (fun h hg => ?_)) <;> replace hF := And.intro h hF)
    | ((with_reducible refine branchB hg (fun h hg => ?_) (fun h hg => ?_)) <;> replace hF := And.intro h hF)
    | ((with_reducible refine atCondH ?_); intro k8 hk8 k9 hk9)
    | (with_reducible refine atEReg ?_)
    | (with_reducible refine atEExit ?_)
    | (with_reducible refine atERet ?_)
    | (with_reducible refine atESkip ?_)
    | ((with_reducible refine atEx ?_); exact ⟨_, _, by repeat first | exact sZ | with_reducible apply sD | with_reducible apply sK | apply sP | apply sF | apply sN | apply sT, hg, hS, by repeat first | exact nD | (apply nT; (· (repeat first | exact pH | apply pT))) | (apply nW; (· (repeat first | exact pH | apply pT)); (· (repeat first | exact kZ | apply kR | apply kF | apply kN | apply kE | apply kI | apply kT | apply kU))) | apply nF | apply nX⟩)
    | ((with_reducible refine atF 57 ?_); (with_reducible replace hg := bind_some hg); obtain ⟨_, hc, hg⟩ := hg; refine ACall.wkN (fun H hS => c57_0 hS hc ?_) (by repeat first | exact aZ | apply aR | apply aF | apply aN | apply aT | refine aG (by (repeat first | exact kZ | apply kR | apply kF | apply kN | apply kE | apply kI | apply kT | apply kU)) ?_) hS (by repeat first | exact nD | (apply nT; (· (repeat first | exact pH | apply pT))) | (apply nW; (· (repeat first | exact pH | apply pT)); (· (repeat first | exact kZ | apply kR | apply kF | apply kN | apply kE | apply kI | apply kT | apply kU))) | apply nF | apply nX); intro  H hS)
    | ((with_reducible refine atLoop ?_); (with_reducible refine pickL hg (rfl : _ = l104_0_0 n _ _ _ n _) ?_); refine AWP.loopE (σ := Int) _ ((fun (f : Nat → Int → Option (Int)) k (s : Int) => f k s) (l104_0_0 n _ _ _)) (fun s => [.k, .k, .d, .d, .d, .d, .d, .k, .p (.int .i64 s), .d, .d, .d, .d, .d, .d, .d, .d, .d, .d]) ((fun c0 c1 (s : Int) => .obj pa1c0 (.cells [c0]) :: .obj pa1c1 (.cells [c1]) :: L) _ _) hg (by repeat first | exact sZ | with_reducible apply sD | with_reducible apply sK | apply sP | apply sF | apply sN | apply sT) hS (by repeat first | exact nD | (apply nT; (· (repeat first | exact pH | apply pT))) | (apply nW; (· (repeat first | exact pH | apply pT)); (· (repeat first | exact kZ | apply kR | apply kF | apply kN | apply kE | apply kI | apply kT | apply kU))) | apply nF | apply nX) (fun _ => rfl) ?_; rintro k x1 H hg hS; (try dsimp only at hg); (try dsimp only at hS); rw [l104_0_0] at hg; refine eawp_sound noY_sound _ _ _ _ ?_; (with_reducible refine atHide ?_); intro k9 hk9; simp only [applyS_d, applyS_k, applyS_p, applyS_nil])
    | ((with_reducible refine atRet ?_); (with_reducible replace hg := Option.some.inj hg); subst hg; exact (RetK.go (hK ) (by first | exact rR | exact rT | exact rF | exact rN | exact rG (by repeat first | exact kZ | apply kR | apply kF | apply kN | apply kE | apply kI | apply kT | apply kU) | exact rU (by repeat first | exact aZ | apply aR | apply aF | apply aN | apply aT | refine aG (by (repeat first | exact kZ | apply kR | apply kF | apply kN | apply kE | apply kI | apply kT | apply kU)) ?_)) hS (by repeat first | exact nD | (apply nT; (· (repeat first | exact pH | apply pT))) | (apply nW; (· (repeat first | exact pH | apply pT)); (· (repeat first | exact kZ | apply kR | apply kF | apply kN | apply kE | apply kI | apply kT | apply kU))) | apply nF | apply nX)))
    | (simp only [hF, reduceIte] at hg)) <;> ((repeat ((with_reducible first | replace hg := guardN hg | replace hg := guardS3 hg | replace hg := guardS2 hg | replace hg := guardS1 hg | replace hg := gd4 hg | replace hg := gd3 hg | replace hg := gd2 hg | replace hg := gd1 hg); obtain ⟨h, hg⟩ := hg; replace hF := And.intro h hF)); replace F := hS.facts; (try simp only [Facts_obj, Facts_tl, Facts_own] at F); try simp only [EVA, reduceIte, reduceCtorEq, Nat.reduceLT, Nat.reduceLeDiff, Int.reduceEq, Int.reduceLT, Int.reduceLE, Nat.reduceMul, Int.reduceToNat, Nat.reduceAdd, Int.reduceAdd, Int.reduceSub, Int.reduceMul, Int.reduceNeg, Tryz.ntmps104, rs104_0, (show IntKind.i64.wrap 1 = 1 from rfl), hF, F])))
/-- slices.ContainsFunc[[]skymosaic/api.Run,skymosaic/api.Run] -/
theorem rs56_0 : Tryz.f56.results.toList = [.tmp 4] := rfl
def g56_0 (n : Nat) (a0 : List S1) (a1c0 : Int) (a1c1 : Int) : Option (Bool) := (g104_0 n a0 a1c0 a1c1).bind fun v1 => some (decide (0 ≤ v1))
theorem c56_0 {B : Nat} {w0 : World} {n : Nat} {a0 : List S1} {a1c0 : Int} {a1c1 : Int} {ta0 : Tail} {pa1c0 : Nat} {pa1c1 : Nat} {H : AHeap} {L : List Item} {K : AV → AHeap → Prop} {r : (Bool)} (hS : Hv H (.obj pa1c0 (.cells ([.int .i64 a1c0])) :: .obj pa1c1 (.cells ([.int .i64 a1c1])) :: L)) (hg : g56_0 n a0 a1c0 a1c1 = some r) (hK : ∀ (H' : AHeap), Hv H' (.obj pa1c0 (.cells ([.int .i64 a1c0])) :: .obj pa1c1 (.cells ([.int .i64 a1c1])) :: L) → K (.bool r) H') : ACall Tryz.prog B w0 56 [.dl 3 (List.map encS1 a0) ta0, .fn (.func 57) [] [.ptr pa1c0 0, .ptr pa1c1 0]] H K := by
  refine ACall.ret ?_
  unfold g56_0 at hg
  refine ACall.enter Tryz.func56 (by kernel_rfl) rfl (eawp_sound noY_sound _ _ _ _ ?_)
  (with_reducible refine atHide ?_); intro k9 hk9
  have hF := True.intro
  have F := hS.facts
  have h0 := True.intro
  repeat' (first | ((with_reducible refine atSeqH ?_); intro k9 hk9) | ((with_reducible refine atHidK (by assumption) ?_)) | ((with_reducible refine atBlkH ?_); intro k9 hk9) | (with_reducible refine atELoop ?_) | (with_reducible refine atERange ?_) | (with_reducible refine atEDraw ?_) | ((first
    | (clear h0)
    | (with_reducible exact noneE hg)
    | ((with_reducible refine Br.iteB hg (fun h hg => ?_) (fun h hg => ?_)) <;> replace hF := And.intro h hF)
    | ((with_reducible refine Br.iteP hg (fun h hg => ?_) (fun h hg => ?_)) <;> replace hF := And.intro h hF)
    | ((with_reducible refine branchB hg (fun h hg => ?_) (fun h hg => ?_)) <;> replace hF := And.intro h hF)
    | ((with_reducible refine atCondH ?_); intro k8 hk8 k9 hk9)
    | (with_reducible refine atEReg ?_)
    | (with_reducible refine atEExit ?_)
    | (with_reducible refine atERet ?_)
    | (with_reducible refine atESkip ?_)
    | ((with_reducible refine atF 104 ?_); (with_reducible replace hg := bind_some hg); obtain ⟨_, hc, hg⟩ := hg; refine ACall.wkN (fun H hS => c104_0 hS hc ?_) (by repeat first | exact aZ | apply aR | apply aF | apply aN | apply aT | refine aG (by (repeat first | exact kZ | apply kR | apply kF | apply kN | apply kE | apply kI | apply kT | apply kU)) ?_) hS (by repeat first | exact nD | (apply nT; (· (repeat first | exact pH | apply pT))) | (apply nW; (· (repeat first | exact pH | apply pT)); (· (repeat first | exact kZ | apply kR | apply kF | apply kN | apply kE | apply kI | apply kT | apply kU))) | apply nF | apply nX); intro  H hS)
    | ((with_reducible refine atRet ?_); (with_reducible replace hg := Option.some.inj hg); subst hg; exact (RetK.go (hK ) (by first | exact rR | exact rT | exact rF | exact rN | exact rG (by repeat first | exact kZ | apply kR | apply kF | apply kN | apply kE | apply kI | apply kT | apply kU) | exact rU (by repeat first | exact aZ | apply aR | apply aF | apply aN | apply aT | refine aG (by (repeat first | exact kZ | apply kR | apply kF | apply kN | apply kE | apply kI | apply kT | apply kU)) ?_)) hS (by repeat first | exact nD | (apply nT; (· (repeat first | exact pH | apply pT))) | (apply nW; (· (repeat first | exact pH | apply pT)); (· (repeat first | exact kZ | apply kR | apply kF | apply kN | apply kE | apply kI | apply kT | apply kU))) | apply nF | apply nX)))
    | (simp only [hF, reduceIte] at hg)) <;> ((repeat ((with_reducible first | replace hg := guardN hg | replace hg := guardS3 hg | replace hg := guardS2 hg | replace hg := guardS1 hg | replace hg := gd4 hg | replace hg := gd3 hg | replace hg := gd2 hg | replace hg := gd1 hg); obtain ⟨h, hg⟩ := hg; replace hF := And.intro h hF)); replace F := hS.facts; (try simp only [Facts_obj, Facts_tl, Facts_own] at F); try simp only [EVA, reduceIte, reduceCtorEq, Nat.reduceLT, Nat.reduceLeDiff, Int.reduceEq, Int.reduceLT, Int.reduceLE, Nat.reduceMul, Int.reduceToNat, Nat.reduceAdd, Int.reduceAdd, Int.reduceSub, Int.reduceMul, Int.reduceNeg, Tryz.ntmps56, rs56_0, hF, F])))
/-- skymosaic/mask.Has -/
theorem rs20 : Tryz.f20.results.toList = [.tmp 6] := rfl
def g20 (n : Nat) (a0 : S5) (a1 : Int) (a2 : Int) : Option (Bool) := (g16 n (⟨a0.c0, a0.c1, a0.c2⟩ : S5)).bind fun v4 => if v4 = 0 then ((g56_0 n a0.c2 a2 a1).bind fun v7 => some v7) else (some false)
theorem c20 {B : Nat} {w0 : World} {n : Nat} {a0 : S5} {a1 : Int} {a2 : Int} {H : AHeap} {L : List Item} {K : AV → AHeap → Prop} {r : (Bool)} (hS : Hv H (L)) (hg : g20 n a0 a1 a2 = some r) (hK : ∀ (H' : AHeap), Hv H' (L) → K (.bool r) H') : ACall Tryz.prog B w0 20 [.agg [.int .i64 a0.c0, .int .i64 a0.c1, .dl 3 (List.map encS1 a0.c2) .none], .int .i64 a1, .int .i64 a2] H K := by
  refine ACall.ret ?_
  unfold g20 at hg
  refine ACall.enter Tryz.func20 (by kernel_rfl) rfl (eawp_sound noY_sound _ _ _ _ ?_)
  (with_reducible refine atHide ?_); intro k9 hk9
  have hF := True.intro
  have F := hS.facts
  have h0 := True.intro
  repeat' (first | ((with_reducible refine atSeqH ?_); intro k9 hk9) | ((with_reducible refine atHidK (by assumption) ?_)) | ((with_reducible refine atBlkH ?_); intro k9 hk9) | (with_reducible refine atELoop ?_) | (with_reducible refine atERange ?_) | (with_reducible refine atEDraw ?_) | ((first
    | (clear h0)
    | (with_reducible exact noneE hg)
    | ((with_reducible refine Br.iteB hg (fun h hg => ?_) (fun h hg => ?_)) <;> replace hF := And.intro h hF)
    | ((with_reducible refine Br.iteP hg (fun h hg => ?_) (fun h hg => ?_)) <;> replace hF := And.intro h hF)
    | ((with_reducible refine branchB hg (fun h hg => ?_) (fun h hg => ?_)) <;> replace hF := And.intro h hF)
    | ((with_reducible refine atCondH ?_); intro k8 hk8 k9 hk9)
    | (with_reducible refine atEReg ?_)
    | (with_reducible refine atEExit ?_)
    | (with_reducible refine atERet ?_)
    | (with_reducible refine atESkip ?_)
    | ((with_reducible refine atBox2 3 ?_); refine box_go rfl hS ?_; intro o3 H hS; simp only [AV.cells] at hS)
    | ((with_reducible refine atBox2 4 ?_); refine box_go rfl hS ?_; intro o4 H hS; simp only [AV.cells] at hS)
    | ((with_reducible refine atBox2 5 ?_); refine box_go rfl hS ?_; intro o5 H hS; simp only [AV.cells] at hS)
    | ((with_reducible refine atF 16 ?_); (with_reducible replace hg := bind_some hg); obtain ⟨_, hc, hg⟩ := hg; refine ACall.wkN (fun H hS => c16 hS hc ?_) (by repeat first | exact aZ | apply aR | apply aF | apply aN | apply aT | refine aG (by (repeat first | exact kZ | apply kR | apply kF | apply kN | apply kE | apply kI | apply kT | apply kU)) ?_) hS (by repeat first | exact nD | (apply nT; (· (repeat first | exact pH | apply pT))) | (apply nW; (· (repeat first | exact pH | apply pT)); (· (repeat first | exact kZ | apply kR | apply kF | apply kN | apply kE | apply kI | apply kT | apply kU))) | apply nF | apply nX); intro  H hS)
    | ((with_reducible refine atF 56 ?_); (with_reducible replace hg := bind_some hg); obtain ⟨_, hc, hg⟩ := hg; refine ACall.wkN (fun H hS => c56_0 hS hc ?_) (by repeat first | exact aZ | apply aR | apply aF | apply aN | apply aT | refine aG (by (repeat first | exact kZ | apply kR | apply kF | apply kN | apply kE | apply kI | apply kT | apply kU)) ?_) hS (by repeat first | exact nD | (apply nT; (· (repeat first | exact pH | apply pT))) | (apply nW; (· (repeat first | exact pH | apply pT)); (· (repeat first | exact kZ | apply kR | apply kF | apply kN | apply kE | apply kI | apply kT | apply kU))) | apply nF | apply nX); intro  H hS)
    | ((with_reducible refine atRet ?_); (with_reducible replace hg := Option.some.inj hg); subst hg; exact (RetK.go (hK ) (by first | exact rR | exact rT | exact rF | exact rN | exact rG (by repeat first | exact kZ | apply kR | apply kF | apply kN | apply kE | apply kI | apply kT | apply kU) | exact rU (by repeat first | exact aZ | apply aR | apply aF | apply aN | apply aT | refine aG (by (repeat first | exact kZ | apply kR | apply kF | apply kN | apply kE | apply kI | apply kT | apply kU)) ?_)) hS (by repeat first | exact nD | (apply nT; (· (repeat first | exact pH | apply pT))) | (apply nW; (· (repeat first | exact pH | apply pT)); (· (repeat first | exact kZ | apply kR | apply kF | apply kN | apply kE | apply kI | apply kT | apply kU))) | apply nF | apply nX)))
    | (simp only [hF, reduceIte] at hg)) <;> ((repeat ((with_reducible first | replace hg := guardN hg | replace hg := guardS3 hg | replace hg := guardS2 hg | replace hg := guardS1 hg | replace hg := gd4 hg | replace hg := gd3 hg | replace hg := gd2 hg | replace hg := gd1 hg); obtain ⟨h, hg⟩ := hg; replace hF := And.intro h hF)); replace F := hS.facts; (try simp only [Facts_obj, Facts_tl, Facts_own] at F); try simp only [EVA, reduceIte, reduceCtorEq, Nat.reduceLT, Nat.reduceLeDiff, Int.reduceEq, Int.reduceLT, Int.reduceLE, Nat.reduceMul, Int.reduceToNat, Nat.reduceAdd, Int.reduceAdd, Int.reduceSub, Int.reduceMul, Int.reduceNeg, Tryz.ntmps20, rs20, hF, F])))
/-- skymosaic/skymosaicref20.Has -/
def l21_0 (n : Nat) (a0 : S5) (a1 : Int) (a2 : Int) : Nat → Int → Option (Bool)
  | 0, _ => none
  | k6 + 1, x5 => if x5 < (a0.c2.length : Int) then (if (0 : Int) ≤ x5 ∧ x5 < (a0.c2.length : Int) then (if ((rd a0.c2 x5).c0) = a2 then (if (0 : Int) ≤ x5 ∧ x5 < (a0.c2.length : Int) then (if ((rd a0.c2 x5).c1) ≤ a1 then (if (0 : Int) ≤ x5 ∧ x5 < (a0.c2.length : Int) then (if a1 < ((rd a0.c2 x5).c2) then (some true) else ((l21_0 n a0 a1 a2 k6) (IntKind.i64.wrap (x5 + 1)))) else none) else ((l21_0 n a0 a1 a2 k6) (IntKind.i64.wrap (x5 + 1)))) else none) else ((l21_0 n a0 a1 a2 k6) (IntKind.i64.wrap (x5 + 1)))) else none) else (some false)
theorem rs21 : Tryz.f21.results.toList = [.tmp 6] := rfl
def g21 (n : Nat) (a0 : S5) (a1 : Int) (a2 : Int) : Option (Bool) := (g17 n (⟨a0.c0, a0.c1, a0.c2⟩ : S5)).bind fun v2 => if v2 = 0 then (l21_0 n a0 a1 a2 n 0) else (some false)
theorem c21 {B : Nat} {w0 : World} {n : Nat} {a0 : S5} {a1 : Int} {a2 : Int} {H : AHeap} {L : List Item} {K : AV → AHeap → Prop} {r : (Bool)} (hS : Hv H (L)) (hg : g21 n a0 a1 a2 = some r) (hK : ∀ (H' : AHeap), Hv H' (L) → K (.bool r) H') : ACall Tryz.prog B w0 21 [.agg [.int .i64 a0.c0, .int .i64 a0.c1, .dl 3 (List.map encS1 a0.c2) .none], .int .i64 a1, .int .i64 a2] H K := by
  refine ACall.ret ?_
  unfold g21 at hg
  refine ACall.enter Tryz.func21 (by kernel_rfl) rfl (eawp_sound noY_sound _ _ _ _ ?_)
  (with_reducible refine atHide ?_); intro k9 hk9
  have hF := True.intro
  have F := hS.facts
  have h0 := True.intro
  repeat' (first | ((with_reducible refine atSeqH ?_); intro k9 hk9) | ((with_reducible refine atHidK (by assumption) ?_)) | ((with_reducible refine atBlkH ?_); intro k9 hk9) | (with_reducible refine atELoop ?_) | (with_reducible refine atERange ?_) | (with_reducible refine atEDraw ?_) | ((first
    | (clear h0)
    | (with_reducible exact noneE hg)
    | ((with_reducible refine Br.iteB hg (fun h hg => ?_) (fun h hg => ?_)) <;> replace hF := And.intro h hF)
    | ((with_reducible refine Br.iteP hg (fun h hg => ?_) (fun h hg => ?_)) <;> replace hF := And.intro h hF)
    | ((with_reducible refine branchB hg (fun h hg => ?_) (fun h hg => ?_)) <;> replace hF := And.intro h hF)
    | ((with_reducible refine atCondH ?_); intro k8 hk8 k9 hk9)
    | (with_reducible refine atEReg ?_)
    | (with_reducible refine atEExit ?_)
    | (with_reducible refine atERet ?_)
    | (with_reducible refine atESkip ?_)
    | ((with_reducible refine atBox2 3 ?_); refine box_go rfl hS ?_; intro o3 H hS; simp only [AV.cells] at hS)
    | ((with_reducible refine atF 17 ?_); (with_reducible replace hg := bind_some hg); obtain ⟨_, hc, hg⟩ := hg; refine ACall.wkN (fun H hS => c17 hS hc ?_) (by repeat first | exact aZ | apply aR | apply aF | apply aN | apply aT | refine aG (by (repeat first | exact kZ | apply kR | apply kF | apply kN | apply kE | apply kI | apply kT | apply kU)) ?_) hS (by repeat first | exact nD | (apply nT; (· (repeat first | exact pH | apply pT))) | (apply nW; (· (repeat first | exact pH | apply pT)); (· (repeat first | exact kZ | apply kR | apply kF | apply kN | apply kE | apply kI | apply kT | apply kU))) | apply nF | apply nX); intro  H hS)
    | ((with_reducible refine atEx ?_); exact ⟨_, _, by repeat first | exact sZ | with_reducible apply sD | with_reducible apply sK | apply sP | apply sF | apply sN | apply sT, hg, hS, by repeat first | exact nD | (apply nT; (· (repeat first | exact pH | apply pT))) | (apply nW; (· (repeat first | exact pH | apply pT)); (· (repeat first | exact kZ | apply kR | apply kF | apply kN | apply kE | apply kI | apply kT | apply kU))) | apply nF | apply nX⟩)
    | ((with_reducible refine atLoop ?_); (with_reducible refine pickL hg (rfl : _ = l21_0 n _ _ _ n _) ?_); refine AWP.loopE (σ := Int) _ ((fun (f : Nat → Int → Option (Bool)) k (s : Int) => f k s) (l21_0 n _ _ _)) (fun s => [.d, .k, .k, .k, .d, .d, .d, .p (.int .i64 s), .d, .d, .d, .d, .d, .d, .d, .d, .d, .d, .d, .d, .d, .d, .d, .d, .d, .d, .d, .d, .d, .d, .d, .d, .d, .d, .d, .d, .d, .d, .d, .d, .d, .d, .d, .d, .d, .d]) ((fun c0 c1 c2 (s : Int) => .obj o3 (.cells [c0, c1, c2]) :: L) _ _ _) hg (by repeat first | exact sZ | with_reducible apply sD | with_reducible apply sK | apply sP | apply sF | apply sN | apply sT) hS (by repeat first | exact nD | (apply nT; (· (repeat first | exact pH | apply pT))) | (apply nW; (· (repeat first | exact pH | apply pT)); (· (repeat first | exact kZ | apply kR | apply kF | apply kN | apply kE | apply kI | apply kT | apply kU))) | apply nF | apply nX) (fun _ => rfl) ?_; rintro k x5 H hg hS; (try dsimp only at hg); (try dsimp only at hS); rw [l21_0] at hg; refine eawp_sound noY_sound _ _ _ _ ?_; (with_reducible refine atHide ?_); intro k9 hk9; simp only [applyS_d, applyS_k, applyS_p, applyS_nil])
    | ((with_reducible refine atRet ?_); (with_reducible replace hg := Option.some.inj hg); subst hg; exact (RetK.go (hK ) (by first | exact rR | exact rT | exact rF | exact rN | exact rG (by repeat first | exact kZ | apply kR | apply kF | apply kN | apply kE | apply kI | apply kT | apply kU) | exact rU (by repeat first | exact aZ | apply aR | apply aF | apply aN | apply aT | refine aG (by (repeat first | exact kZ | apply kR | apply kF | apply kN | apply kE | apply kI | apply kT | apply kU)) ?_)) hS (by repeat first | exact nD | (apply nT; (· (repeat first | exact pH | apply pT))) | (apply nW; (· (repeat first | exact pH | apply pT)); (· (repeat first | exact kZ | apply kR | apply kF | apply kN | apply kE | apply kI | apply kT | apply kU))) | apply nF | apply nX)))
    | (simp only [hF, reduceIte] at hg)) <;> ((repeat ((with_reducible first | replace hg := guardN hg | replace hg := guardS3 hg | replace hg := guardS2 hg | replace hg := guardS1 hg | replace hg := gd4 hg | replace hg := gd3 hg | replace hg := gd2 hg | replace hg := gd1 hg); obtain ⟨h, hg⟩ := hg; replace hF := And.intro h hF)); replace F := hS.facts; (try simp only [Facts_obj, Facts_tl, Facts_own] at F); try simp only [EVA, reduceIte, reduceCtorEq, Nat.reduceLT, Nat.reduceLeDiff, Int.reduceEq, Int.reduceLT, Int.reduceLE, Nat.reduceMul, Int.reduceToNat, Nat.reduceAdd, Int.reduceAdd, Int.reduceSub, Int.reduceMul, Int.reduceNeg, Tryz.ntmps21, rs21, (show IntKind.i64.wrap 1 = 1 from rfl), hF, F])))
/-- skymosaic/mask.Equal$1 -/
theorem rs59 : Tryz.f59.results.toList = [.tmp 4] := rfl
def g59 (n : Nat) (a0 : S1) (a1 : S1) : Option (Bool) := some (decide (a0.c0 = a1.c0 ∧ a0.c1 = a1.c1 ∧ a0.c2 = a1.c2))
theorem c59 {B : Nat} {w0 : World} {n : Nat} {a0 : S1} {a1 : S1} {H : AHeap} {L : List Item} {K : AV → AHeap → Prop} {r : (Bool)} (hS : Hv H (L)) (hg : g59 n a0 a1 = some r) (hK : ∀ (H' : AHeap), Hv H' (L) → K (.bool r) H') : ACall Tryz.prog B w0 59 [.agg [.int .i64 a0.c0, .int .i64 a0.c1, .int .i64 a0.c2], .agg [.int .i64 a1.c0, .int .i64 a1.c1, .int .i64 a1.c2]] H K := by
  refine ACall.ret ?_
  unfold g59 at hg
  refine ACall.enter Tryz.func59 (by kernel_rfl) rfl (eawp_sound noY_sound _ _ _ _ ?_)
  (with_reducible refine atHide ?_); intro k9 hk9
  have hF := True.intro
  have F := hS.facts
  have h0 := True.intro
  repeat' (first | ((with_reducible refine atSeqH ?_); intro k9 hk9) | ((with_reducible refine atHidK (by assumption) ?_)) | ((with_reducible refine atBlkH ?_); intro k9 hk9) | (with_reducible refine atELoop ?_) | (with_reducible refine atERange ?_) | (with_reducible refine atEDraw ?_) | ((first
    | (clear h0)
    | (with_reducible exact noneE hg)
    | ((with_reducible refine Br.iteB hg (fun h hg => ?_) (fun h hg => ?_)) <;> replace hF := And.intro h hF)
    | ((with_reducible refine Br.iteP hg (fun h hg => ?_) (fun h hg => ?_)) <;> replace hF := And.intro h hF)
    | ((with_reducible refine branchB hg (fun h hg => ?_) (fun h hg => ?_)) <;> replace hF := And.intro h hF)
    | ((with_reducible refine atCondH ?_); intro k8 hk8 k9 hk9)
    | (with_reducible refine atEReg ?_)
    | (with_reducible refine atEExit ?_)
    | (with_reducible refine atERet ?_)
    | (with_reducible refine atESkip ?_)
    | ((with_reducible refine atBox2 2 ?_); refine box_go rfl hS ?_; intro o2 H hS; simp only [AV.cells] at hS)
    | ((with_reducible refine atBox2 3 ?_); refine box_go rfl hS ?_; intro o3 H hS; simp only [AV.cells] at hS)
    | ((with_reducible refine atRet ?_); (with_reducible replace hg := Option.some.inj hg); subst hg; exact (RetK.go (hK ) (by first | exact rR | exact rT | exact rF | exact rN | exact rG (by repeat first | exact kZ | apply kR | apply kF | apply kN | apply kE | apply kI | apply kT | apply kU) | exact rU (by repeat first | exact aZ | apply aR | apply aF | apply aN | apply aT | refine aG (by (repeat first | exact kZ | apply kR | apply kF | apply kN | apply kE | apply kI | apply kT | apply kU)) ?_)) hS (by repeat first | exact nD | (apply nT; (· (repeat first | exact pH | apply pT))) | (apply nW; (· (repeat first | exact pH | apply pT)); (· (repeat first | exact kZ | apply kR | apply kF | apply kN | apply kE | apply kI | apply kT | apply kU))) | apply nF | apply nX)))
    | (simp only [hF, reduceIte] at hg)) <;> ((repeat ((with_reducible first | replace hg := guardN hg | replace hg := guardS3 hg | replace hg := guardS2 hg | replace hg := guardS1 hg | replace hg := gd4 hg | replace hg := gd3 hg | replace hg := gd2 hg | replace hg := gd1 hg); obtain ⟨h, hg⟩ := hg; replace hF := And.intro h hF)); replace F := hS.facts; (try simp only [Facts_obj, Facts_tl, Facts_own] at F); try simp only [EVA, reduceIte, reduceCtorEq, Nat.reduceLT, Nat.reduceLeDiff, Int.reduceEq, Int.reduceLT, Int.reduceLE, Nat.reduceMul, Int.reduceToNat, Nat.reduceAdd, Int.reduceAdd, Int.reduceSub, Int.reduceMul, Int.reduceNeg, Tryz.ntmps59, rs59, eqt95, hF, F])))
/-- slices.EqualFunc[[]skymosaic/api.Run,[]skymosaic/api.Run,skymosaic/api.Run,skymosaic/api.Run] -/
def l58_0_0 (n : Nat) (a0 : List S1) (a1 : List S1) : Nat → Int → Option (Bool)
  | 0, _ => none
  | k3 + 1, x2 => if x2 < (a0.length : Int) then (if (0 : Int) ≤ x2 ∧ x2 < (a0.length : Int) then (if (0 : Int) ≤ x2 ∧ x2 < (a1.length : Int) then ((g59 n (⟨(rd a0 x2).c0, (rd a0 x2).c1, (rd a0 x2).c2⟩ : S1) (⟨(rd a1 x2).c0, (rd a1 x2).c1, (rd a1 x2).c2⟩ : S1)).bind fun v14 => if v14 = true then ((l58_0_0 n a0 a1 k3) (IntKind.i64.wrap (x2 + 1))) else (some false)) else none) else none) else (some true)
theorem rs58_0 : Tryz.f58.results.toList = [.tmp 6] := rfl
def g58_0 (n : Nat) (a0 : List S1) (a1 : List S1) : Option (Bool) := if (a0.length : Int) = (a1.length : Int) then (l58_0_0 n a0 a1 n 0) else (some false)
theorem c58_0 {B : Nat} {w0 : World} {n : Nat} {a0 : List S1} {a1 : List S1} {ta0 : Tail} {ta1 : Tail} {H : AHeap} {L : List Item} {K : AV → AHeap → Prop} {r : (Bool)} (hS : Hv H (L)) (hg : g58_0 n a0 a1 = some r) (hK : ∀ (H' : AHeap), Hv H' (L) → K (.bool r) H') : ACall Tryz.prog B w0 58 [.dl 3 (List.map encS1 a0) ta0, .dl 3 (List.map encS1 a1) ta1, .fn (.func 59) [] []] H K := by
  refine ACall.ret ?_
  unfold g58_0 at hg
  refine ACall.enter Tryz.func58 (by kernel_rfl) rfl (eawp_sound noY_sound _ _ _ _ ?_)
  (with_reducible refine atHide ?_); intro k9 hk9
  have hF := True.intro
  have F := hS.facts
  have h0 := True.intro
  repeat' (first | ((with_reducible refine atSeqH ?_); intro k9 hk9) | ((with_reducible refine atHidK (by assumption) ?_)) | ((with_reducible refine atBlkH ?_); intro k9 hk9) | (with_reducible refine atELoop ?_) | (with_reducible refine atERange ?_) | (with_reducible refine atEDraw ?_) | ((first
    | (clear h0)
    | (with_reducible exact noneE hg)
    | ((with_reducible refine Br.iteB hg (fun h hg => ?_) (fun h hg => ?_)) <;> replace hF := And.intro h hF)
    | ((with_reducible refine Br.iteP hg (fun h hg => ?_) (fun h hg => ?_)) <;> replace hF := And.intro h hF)
    | ((with_reducible refine branchB hg (fun h hg => ?_) (fun h hg => ?_)) <;> replace hF := And.intro h hF)
    | ((with_reducible refine atCondH ?_); intro k8 hk8 k9 hk9)
    | (with_reducible refine atEReg ?_)
    | (with_reducible refine atEExit ?_)
    | (with_reducible refine atERet ?_)
    | (with_reducible refine atESkip ?_)
    | ((with_reducible refine atEx ?_); exact ⟨_, _, by repeat first | exact sZ | with_reducible apply sD | with_reducible apply sK | apply sP | apply sF | apply sN | apply sT, hg, hS, by repeat first | exact nD | (apply nT; (· (repeat first | exact pH | apply pT))) | (apply nW; (· (repeat first | exact pH | apply pT)); (· (repeat first | exact kZ | apply kR | apply kF | apply kN | apply kE | apply kI | apply kT | apply kU))) | apply nF | apply nX⟩)
    | ((with_reducible refine atAlloc2 95 8 ?_); refine alloc_go ty95 rfl rfl hS ?_; intro o8 H hS; simp only [AV.cells] at hS)
    | ((with_reducible refine atSto 95 ?_); refine sto_go ty95 (by repeat first | exact pH | apply pT) hS (by rfl) (by rfl) (by exact Nat.le_of_ble_eq_true rfl) ?_; intro H hS; simp only [putA_nil, putA_0, putA_s, List.cons_append, List.nil_append, AV.cells, List.length_cons, List.length_nil, List.drop_succ_cons, List.drop_zero, Nat.reduceAdd] at hS)
    | ((with_reducible refine atAlloc2 95 9 ?_); refine alloc_go ty95 rfl rfl hS ?_; intro o9 H hS; simp only [AV.cells] at hS)
    | ((with_reducible refine atF 59 ?_); (with_reducible replace hg := bind_some hg); obtain ⟨_, hc, hg⟩ := hg; refine ACall.wkN (fun H hS => c59 hS hc ?_) (by repeat first | exact aZ | apply aR | apply aF | apply aN | apply aT | refine aG (by (repeat first | exact kZ | apply kR | apply kF | apply kN | apply kE | apply kI | apply kT | apply kU)) ?_) hS (by repeat first | exact nD | (apply nT; (· (repeat first | exact pH | apply pT))) | (apply nW; (· (repeat first | exact pH | apply pT)); (· (repeat first | exact kZ | apply kR | apply kF | apply kN | apply kE | apply kI | apply kT | apply kU))) | apply nF | apply nX); intro  H hS)
    | ((with_reducible refine atLoop ?_); (with_reducible refine pickL hg (rfl : _ = l58_0_0 n _ _ n _) ?_); refine AWP.loopE (σ := Int) _ ((fun (f : Nat → Int → Option (Bool)) k (s : Int) => f k s) (l58_0_0 n _ _)) (fun s => [.d, .k, .k, .d, .d, .d, .d, .d, .d, .d, .d, .d, .d, .d, .d, .k, .k, .p (.int .i64 s), .d, .d, .d, .d, .d, .d, .d, .d, .d, .d, .d, .d, .d, .d]) (fun _ => L) hg (by repeat first | exact sZ | with_reducible apply sD | with_reducible apply sK | apply sP | apply sF | apply sN | apply sT) hS (by repeat first | exact nD | (apply nT; (· (repeat first | exact pH | apply pT))) | (apply nW; (· (repeat first | exact pH | apply pT)); (· (repeat first | exact kZ | apply kR | apply kF | apply kN | apply kE | apply kI | apply kT | apply kU))) | apply nF | apply nX) (fun _ => rfl) ?_; rintro k x2 H hg hS; (try dsimp only at hg); (try dsimp only at hS); rw [l58_0_0] at hg; refine eawp_sound noY_sound _ _ _ _ ?_; (with_reducible refine atHide ?_); intro k9 hk9; simp only [applyS_d, applyS_k, applyS_p, applyS_nil])
    | ((with_reducible refine atRet ?_); (with_reducible replace hg := Option.some.inj hg); subst hg; exact (RetK.go (hK ) (by first | exact rR | exact rT | exact rF | exact rN | exact rG (by repeat first | exact kZ | apply kR | apply kF | apply kN | apply kE | apply kI | apply kT | apply kU) | exact rU (by repeat first | exact aZ | apply aR | apply aF | apply aN | apply aT | refine aG (by (repeat first | exact kZ | apply kR | apply kF | apply kN | apply kE | apply kI | apply kT | apply kU)) ?_)) hS (by repeat first | exact nD | (apply nT; (· (repeat first | exact pH | apply pT))) | (apply nW; (· (repeat first | exact pH | apply pT)); (· (repeat first | exact kZ | apply kR | apply kF | apply kN | apply kE | apply kI | apply kT | apply kU))) | apply nF | apply nX)))
    | (simp only [hF, reduceIte] at hg)) <;> ((repeat ((with_reducible first | replace hg := guardN hg | replace hg := guardS3 hg | replace hg := guardS2 hg | replace hg := guardS1 hg | replace hg := gd4 hg | replace hg := gd3 hg | replace hg := gd2 hg | replace hg := gd1 hg); obtain ⟨h, hg⟩ := hg; replace hF := And.intro h hF)); replace F := hS.facts; (try simp only [Facts_obj, Facts_tl, Facts_own] at F); try simp only [EVA, reduceIte, reduceCtorEq, Nat.reduceLT, Nat.reduceLeDiff, Int.reduceEq, Int.reduceLT, Int.reduceLE, Nat.reduceMul, Int.reduceToNat, Nat.reduceAdd, Int.reduceAdd, Int.reduceSub, Int.reduceMul, Int.reduceNeg, Tryz.ntmps58, rs58_0, (show IntKind.i64.wrap 1 = 1 from rfl), hF, F])))
/-- skymosaic/mask.Equal -/
theorem rs22 : Tryz.f22.results.toList = [.tmp 4] := rfl
def g22 (n : Nat) (a0 : S5) (a1 : S5) : Option (Bool) := if a0.c0 = a1.c0 then (if a0.c1 = a1.c1 then ((g58_0 n a0.c2 a1.c2).bind fun v5 => some v5) else (some false)) else (some false)
theorem c22 {B : Nat} {w0 : World} {n : Nat} {a0 : S5} {a1 : S5} {H : AHeap} {L : List Item} {K : AV → AHeap → Prop} {r : (Bool)} (hS : Hv H (L)) (hg : g22 n a0 a1 = some r) (hK : ∀ (H' : AHeap), Hv H' (L) → K (.bool r) H') : ACall Tryz.prog B w0 22 [.agg [.int .i64 a0.c0, .int .i64 a0.c1, .dl 3 (List.map encS1 a0.c2) .none], .agg [.int .i64 a1.c0, .int .i64 a1.c1, .dl 3 (List.map encS1 a1.c2) .none]] H K := by
  refine ACall.ret ?_
  unfold g22 at hg
  refine ACall.enter Tryz.func22 (by kernel_rfl) rfl (eawp_sound noY_sound _ _ _ _ ?_)
  (with_reducible refine atHide ?_); intro k9 hk9
  have hF := True.intro
  have F := hS.facts
  have h0 := True.intro
  repeat' (first | ((with_reducible refine atSeqH ?_); intro k9 hk9) | ((with_reducible refine atHidK (by assumption) ?_)) | ((with_reducible refine atBlkH ?_); intro k9 hk9) | (with_reducible refine atELoop ?_) | (with_reducible refine atERange ?_) | (with_reducible refine atEDraw ?_) | ((first
    | (clear h0)
    | (with_reducible exact noneE hg)
    | ((with_reducible refine Br.iteB hg (fun h hg => ?_) (fun h hg => ?_)) <;> replace hF := And.intro h hF)
    | ((with_reducible refine Br.iteP hg (fun h hg => ?_) (fun h hg => ?_)) <;> replace hF := And.intro h hF)
    | ((with_reducible refine branchB hg (fun h hg => ?_) (fun h hg => ?_)) <;> replace hF := And.intro h hF)
    | ((with_reducible refine atCondH ?_); intro k8 hk8 k9 hk9)
    | (with_reducible refine atEReg ?_)
    | (with_reducible refine atEExit ?_)
    | (with_reducible refine atERet ?_)
    | (with_reducible refine atESkip ?_)
    | ((with_reducible refine atBox2 2 ?_); refine box_go rfl hS ?_; intro o2 H hS; simp only [AV.cells] at hS)
    | ((with_reducible refine atBox2 3 ?_); refine box_go rfl hS ?_; intro o3 H hS; simp only [AV.cells] at hS)
    | ((with_reducible refine atF 58 ?_); (with_reducible replace hg := bind_some hg); obtain ⟨_, hc, hg⟩ := hg; refine ACall.wkN (fun H hS => c58_0 hS hc ?_) (by repeat first | exact aZ | apply aR | apply aF | apply aN | apply aT | refine aG (by (repeat first | exact kZ | apply kR | apply kF | apply kN | apply kE | apply kI | apply kT | apply kU)) ?_) hS (by repeat first | exact nD | (apply nT; (· (repeat first | exact pH | apply pT))) | (apply nW; (· (repeat first | exact pH | apply pT)); (· (repeat first | exact kZ | apply kR | apply kF | apply kN | apply kE | apply kI | apply kT | apply kU))) | apply nF | apply nX); intro  H hS)
    | ((with_reducible refine atRet ?_); (with_reducible replace hg := Option.some.inj hg); subst hg; exact (RetK.go (hK ) (by first | exact rR | exact rT | exact rF | exact rN | exact rG (by repeat first | exact kZ | apply kR | apply kF | apply kN | apply kE | apply kI | apply kT | apply kU) | exact rU (by repeat first | exact aZ | apply aR | apply aF | apply aN | apply aT | refine aG (by (repeat first | exact kZ | apply kR | apply kF | apply kN | apply kE | apply kI | apply kT | apply kU)) ?_)) hS (by repeat first | exact nD | (apply nT; (· (repeat first | exact pH | apply pT))) | (apply nW; (· (repeat first | exact pH | apply pT)); (· (repeat first | exact kZ | apply kR | apply kF | apply kN | apply kE | apply kI | apply kT | apply kU))) | apply nF | apply nX)))
    | (simp only [hF, reduceIte] at hg)) <;> ((repeat ((with_reducible first | replace hg := guardN hg | replace hg := guardS3 hg | replace hg := guardS2 hg | replace hg := guardS1 hg | replace hg := gd4 hg | replace hg := gd3 hg | replace hg := gd2 hg | replace hg := gd1 hg); obtain ⟨h, hg⟩ := hg; replace hF := And.intro h hF)); replace F := hS.facts; (try simp only [Facts_obj, Facts_tl, Facts_own] at F); try simp only [EVA, reduceIte, reduceCtorEq, Nat.reduceLT, Nat.reduceLeDiff, Int.reduceEq, Int.reduceLT, Int.reduceLE, Nat.reduceMul, Int.reduceToNat, Nat.reduceAdd, Int.reduceAdd, Int.reduceSub, Int.reduceMul, Int.reduceNeg, Tryz.ntmps22, rs22, hF, F])))
/-- skymosaic/skymosaicref20.Equal -/
def l23_0 (n : Nat) (a0 : S5) (a1 : S5) : Nat → Int → Option (Bool)
  | 0, _ => none
  | k7 + 1, x6 => if x6 < (a0.c2.length : Int) then (if (0 : Int) ≤ x6 ∧ x6 < (a0.c2.length : Int) then (if (0 : Int) ≤ x6 ∧ x6 < (a1.c2.length : Int) then (if ((rd a0.c2 x6).c0) = ((rd a1.c2 x6).c0) ∧ ((rd a0.c2 x6).c1) = ((rd a1.c2 x6).c1) ∧ ((rd a0.c2 x6).c2) = ((rd a1.c2 x6).c2) then ((l23_0 n a0 a1 k7) (IntKind.i64.wrap (x6 + 1))) else (some false)) else none) else none) else (some true)
theorem rs23 : Tryz.f23.results.toList = [.tmp 4] := rfl
def g23 (n : Nat) (a0 : S5) (a1 : S5) : Option (Bool) := if a0.c0 = a1.c0 then (if a0.c1 = a1.c1 then (if (a0.c2.length : Int) = (a1.c2.length : Int) then (l23_0 n a0 a1 n 0) else (some false)) else (some false)) else (some false)
theorem c23 {B : Nat} {w0 : World} {n : Nat} {a0 : S5} {a1 : S5} {H : AHeap} {L : List Item} {K : AV → AHeap → Prop} {r : (Bool)} (hS : Hv H (L)) (hg : g23 n a0 a1 = some r) (hK : ∀ (H' : AHeap), Hv H' (L) → K (.bool r) H') : ACall Tryz.prog B w0 23 [.agg [.int .i64 a0.c0, .int .i64 a0.c1, .dl 3 (List.map encS1 a0.c2) .none], .agg [.int .i64 a1.c0, .int .i64 a1.c1, .dl 3 (List.map encS1 a1.c2) .none]] H K := by
  refine ACall.ret ?_
  unfold g23 at hg
  refine ACall.enter Tryz.func23 (by kernel_rfl) rfl (eawp_sound noY_sound _ _ _ _ ?_)
  (with_reducible refine atHide ?_); intro k9 hk9
  have hF := True.intro
  have F := hS.facts
  have h0 := True.intro
  repeat' (first | ((with_reducible refine atSeqH ?_); intro k9 hk9) | ((with_reducible refine atHidK (by assumption) ?_)) | ((with_reducible refine atBlkH ?_); intro k9 hk9) | (with_reducible refine atELoop ?_) | (with_reducible refine atERange ?_) | (with_reducible refine atEDraw ?_) | ((first
    | (clear h0)
    | (with_reducible exact noneE hg)
    | ((with_reducible refine Br.iteB hg (fun h hg => ?_) (fun h hg => ?_)) <;> replace hF := And.intro h hF)
    | ((with_reducible refine Br.iteP hg (fun h hg => ?_) (fun h hg => ?_)) <;> replace hF := And.intro h hF)
    | ((with_reducible refine branchB hg (fun h hg => ?_) (fun h hg => ?_)) <;> replace hF := And.intro h hF)
    | ((with_reducible refine atCondH ?_); intro k8 hk8 k9 hk9)
    | (with_reducible refine atEReg ?_)
    | (with_reducible refine atEExit ?_)
    | (with_reducible refine atERet ?_)
    | (with_reducible refine atESkip ?_)
    | ((with_reducible refine atBox2 2 ?_); refine box_go rfl hS ?_; intro o2 H hS; simp only [AV.cells] at hS)
    | ((with_reducible refine atBox2 3 ?_); refine box_go rfl hS ?_; intro o3 H hS; simp only [AV.cells] at hS)
    | ((with_reducible refine atEx ?_); exact ⟨_, _, by repeat first | exact sZ | with_reducible apply sD | with_reducible apply sK | apply sP | apply sF | apply sN | apply sT, hg, hS, by repeat first | exact nD | (apply nT; (· (repeat first | exact pH | apply pT))) | (apply nW; (· (repeat first | exact pH | apply pT)); (· (repeat first | exact kZ | apply kR | apply kF | apply kN | apply kE | apply kI | apply kT | apply kU))) | apply nF | apply nX⟩)
    | ((with_reducible refine atDraw 6 ?_); refine AWP.draw noY_sound [[], [0], [], [0, 1, 2], [0, 1, 2, 3], [], [5], [], [5, 6, 7], [5, 6, 7, 8], [0, 1, 2, 3, 4, 5, 6, 7, 8, 9]] [⟨0, false, []⟩, ⟨1, false, []⟩, ⟨2, false, []⟩, ⟨3, false, []⟩, ⟨4, false, []⟩, ⟨5, false, []⟩, ⟨6, false, []⟩, ⟨7, false, []⟩, ⟨8, false, []⟩, ⟨9, false, []⟩, ⟨10, false, []⟩] [0, 1, 2, 3, 4, 5, 6, 7, 8, 9, 10] [0, 1, 2, 3, 4, 5, 6, 7, 8, 9, 10] (by kernel_rfl) ?_)
    | ((with_reducible refine atLoop ?_); (with_reducible refine pickL hg (rfl : _ = l23_0 n _ _ n _) ?_); refine AWP.loopE (σ := Int) _ ((fun (f : Nat → Int → Option (Bool)) k (s : Int) => f k s) (l23_0 n _ _)) (fun s => [.d, .d, .k, .k, .d, .p (.int .i64 s), .d, .d, .d, .d, .d, .d, .d, .d, .d, .d, .d, .d, .d, .d, .d, .d, .d, .d, .d, .d, .d, .d, .d, .d, .d, .d, .d, .d, .d, .d, .d, .d, .d, .d, .d, .d, .d, .d, .d]) ((fun c0 c1 c2 c3 c4 c5 (s : Int) => .obj o2 (.cells [c0, c1, c2]) :: .obj o3 (.cells [c3, c4, c5]) :: L) _ _ _ _ _ _) hg (by repeat first | exact sZ | with_reducible apply sD | with_reducible apply sK | apply sP | apply sF | apply sN | apply sT) hS (by repeat first | exact nD | (apply nT; (· (repeat first | exact pH | apply pT))) | (apply nW; (· (repeat first | exact pH | apply pT)); (· (repeat first | exact kZ | apply kR | apply kF | apply kN | apply kE | apply kI | apply kT | apply kU))) | apply nF | apply nX) (fun _ => rfl) ?_; rintro k x6 H hg hS; (try dsimp only at hg); (try dsimp only at hS); rw [l23_0] at hg; refine eawp_sound noY_sound _ _ _ _ ?_; (with_reducible refine atHide ?_); intro k9 hk9; simp only [applyS_d, applyS_k, applyS_p, applyS_nil])
    | ((with_reducible refine atRet ?_); (with_reducible replace hg := Option.some.inj hg); subst hg; exact (RetK.go (hK ) (by first | exact rR | exact rT | exact rF | exact rN | exact rG (by repeat first | exact kZ | apply kR | apply kF | apply kN | apply kE | apply kI | apply kT | apply kU) | exact rU (by repeat first | exact aZ | apply aR | apply aF | apply aN | apply aT | refine aG (by (repeat first | exact kZ | apply kR | apply kF | apply kN | apply kE | apply kI | apply kT | apply kU)) ?_)) hS (by repeat first | exact nD | (apply nT; (· (repeat first | exact pH | apply pT))) | (apply nW; (· (repeat first | exact pH | apply pT)); (· (repeat first | exact kZ | apply kR | apply kF | apply kN | apply kE | apply kI | apply kT | apply kU))) | apply nF | apply nX)))
    | (simp only [hF, reduceIte] at hg)) <;> ((repeat ((with_reducible first | replace hg := guardN hg | replace hg := guardS3 hg | replace hg := guardS2 hg | replace hg := guardS1 hg | replace hg := gd4 hg | replace hg := gd3 hg | replace hg := gd2 hg | replace hg := gd1 hg); obtain ⟨h, hg⟩ := hg; replace hF := And.intro h hF)); replace F := hS.facts; (try simp only [Facts_obj, Facts_tl, Facts_own] at F); try simp only [EVA, reduceIte, reduceCtorEq, Nat.reduceLT, Nat.reduceLeDiff, Int.reduceEq, Int.reduceLT, Int.reduceLE, Nat.reduceMul, Int.reduceToNat, Nat.reduceAdd, Int.reduceAdd, Int.reduceSub, Int.reduceMul, Int.reduceNeg, Tryz.ntmps23, rs23, (show IntKind.i64.wrap 1 = 1 from rfl), eqt95, hF, F])))
end Go.Av
end
