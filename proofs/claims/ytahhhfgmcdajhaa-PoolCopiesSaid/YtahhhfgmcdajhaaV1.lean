/- walks ahead of the hand modules -/
import Derived.Test.YtahhhfgmcdajhaaA14
set_option autoImplicit false
set_option linter.unusedSimpArgs false
set_option linter.unusedVariables false
set_option linter.unnecessarySimpa false
section
set_option maxHeartbeats 8000000
set_option maxRecDepth 10000
namespace Go.Av
open Go.Proofs
/-- slices.Clone[[]byte,byte] -/
theorem rs46 : Try.f46.results.toList = [.tmp 2] := rfl
def g46 (n : Nat) (a0 : List Int) : Option (List Int) := if a0.length ≤ 140737488355328 then some a0 else none
theorem c46 {B : Nat} {w0 : World} {n : Nat} {a0 : List Int} {ta0 : Tail} {H : AHeap} {L : List Item} {K : AV → AHeap → Prop} {r : List Int} (hS : Hv H L) (hg : g46 n a0 = some r) (hK : ∀ (q0 : Tail) (H' : AHeap), Hv H' (.tl q0 :: L) → K (.dl 1 (List.map (AV.int .u8) r) q0) H') : ACall Try.prog B w0 46 [.dl 1 (List.map (AV.int .u8) a0) ta0] H K := by
  refine ACall.wkR ?_
  unfold g46 at hg
  obtain ⟨hl, hg⟩ := guard_some hg
  obtain rfl := Option.some.inj hg
  refine ACall.enter Try.func46 (by kernel_rfl) rfl (eawp_sound noY_sound _ _ _ _ ?_)
  simp only [EVA, eawp_seq, eawp_cond, eawp_block, eawp_loop, reduceIte, reduceCtorEq, Nat.reduceEqDiff, Nat.reduceLT, Nat.reduceLeDiff, Int.reduceEq, Int.reduceLT, Int.reduceLE, Nat.reduceMul, Int.reduceToNat, Nat.reduceAdd, Int.reduceAdd, Int.reduceSub, Int.reduceMul, Int.reduceNeg, Try.ntmps46, rs46]
  refine Br.mk' (fun h => ⟨?_, ?_⟩) (fun h => ?_)
  · simp only [EVA, eawp_seq, eawp_cond, eawp_block, eawp_loop, reduceIte, reduceCtorEq, Nat.reduceEqDiff, Nat.reduceLT, Nat.reduceLeDiff, Int.reduceEq, Int.reduceLT, Int.reduceLE, Nat.reduceMul, Int.reduceToNat, Nat.reduceAdd, Int.reduceAdd, Int.reduceSub, Int.reduceMul, Int.reduceNeg, rs46, lateK_eq]
    have h0 : a0 = [] := List.map_eq_nil_iff.1 h
    subst h0
    exact ⟨_, (wkR.a (wkA.v (wkV.nilf _ _))), hK .full H (hS.free (.inl rfl) rfl)⟩
  · simp only [EVA, eawp_seq, eawp_cond, eawp_block, eawp_loop, reduceIte, reduceCtorEq, Nat.reduceEqDiff, Nat.reduceLT, Nat.reduceLeDiff, Int.reduceEq, Int.reduceLT, Int.reduceLE, Nat.reduceMul, Int.reduceToNat, Nat.reduceAdd, Int.reduceAdd, Int.reduceSub, Int.reduceMul, Int.reduceNeg, rs46, lateK_eq]
    refine app_nil apt28 (AppSrc.dl ty28 rfl) hS hl ?_
    intro tl H hS
    simp only [EVA, eawp_seq, eawp_cond, eawp_block, eawp_loop, reduceIte, reduceCtorEq, Nat.reduceEqDiff, Nat.reduceLT, Nat.reduceLeDiff, Int.reduceEq, Int.reduceLT, Int.reduceLE, Nat.reduceMul, Int.reduceToNat, Nat.reduceAdd, Int.reduceAdd, Int.reduceSub, Int.reduceMul, Int.reduceNeg, rs46]
    exact ⟨_, (wkR.a (wkA.refl _)), hK tl H hS⟩
  · simp only [EVA, eawp_seq, eawp_cond, eawp_block, eawp_loop, reduceIte, reduceCtorEq, Nat.reduceEqDiff, Nat.reduceLT, Nat.reduceLeDiff, Int.reduceEq, Int.reduceLT, Int.reduceLE, Nat.reduceMul, Int.reduceToNat, Nat.reduceAdd, Int.reduceAdd, Int.reduceSub, Int.reduceMul, Int.reduceNeg, rs46, lateK_eq]
    refine app_nil apt28 (AppSrc.dl ty28 rfl) hS hl ?_
    intro tl H hS
    simp only [EVA, eawp_seq, eawp_cond, eawp_block, eawp_loop, reduceIte, reduceCtorEq, Nat.reduceEqDiff, Nat.reduceLT, Nat.reduceLeDiff, Int.reduceEq, Int.reduceLT, Int.reduceLE, Nat.reduceMul, Int.reduceToNat, Nat.reduceAdd, Int.reduceAdd, Int.reduceSub, Int.reduceMul, Int.reduceNeg, rs46]
    exact ⟨_, (wkR.a (wkA.refl _)), hK tl H hS⟩
theorem c46m {B : Nat} {w0 : World} {a0 : List Int} {ta0 : Tail} {H : AHeap} {L : List Item} {K : AV → AHeap → Prop} {ρ : Type} {A C : Option ρ} {r : ρ} (hS : Hv H L) (hl : a0.length ≤ 140737488355328) (hg : (if a0 = [] then A else C) = some r) (hK0 : a0 = [] → A = some r → K (.dl 0 [] .full) H)
    (hK1 : a0 ≠ [] → C = some r → ∀ (id : Nat) (H' : AHeap), Hv H' (.obj id (.cells (List.map (AV.int .u8) a0)) :: L) → K (.sl 1 id 0 a0.length) H') : ACall Try.prog B w0 46 [.dl 1 (List.map (AV.int .u8) a0) ta0] H K := by
  by_cases h0 : a0 = []
  · rw [if_pos h0] at hg
    have hK := hK0 h0 hg
    subst h0
    refine ACall.wkR ?_
    refine ACall.enter Try.func46 (by kernel_rfl) rfl (eawp_sound noY_sound _ _ _ _ ?_)
    simp only [EVA, eawp_seq, eawp_cond, eawp_block, eawp_loop, reduceIte, reduceCtorEq, Nat.reduceEqDiff, Nat.reduceLT, Nat.reduceLeDiff, Int.reduceEq, Int.reduceLT, Int.reduceLE, Nat.reduceMul, Int.reduceToNat, Nat.reduceAdd, Int.reduceAdd, Int.reduceSub, Int.reduceMul, Int.reduceNeg, Try.ntmps46, rs46]
    refine Br.mk' (fun h => ⟨?_, ?_⟩) (fun h => absurd (by first | trivial | rfl) h)
    · simp only [EVA, eawp_seq, eawp_cond, eawp_block, eawp_loop, reduceIte, reduceCtorEq, Nat.reduceEqDiff, Nat.reduceLT, Nat.reduceLeDiff, Int.reduceEq, Int.reduceLT, Int.reduceLE, Nat.reduceMul, Int.reduceToNat, Nat.reduceAdd, Int.reduceAdd, Int.reduceSub, Int.reduceMul, Int.reduceNeg, rs46, lateK_eq]
      exact ⟨_, wkR.a (wkA.refl _), hK⟩
    · simp only [EVA, eawp_seq, eawp_cond, eawp_block, eawp_loop, reduceIte, reduceCtorEq, Nat.reduceEqDiff, Nat.reduceLT, Nat.reduceLeDiff, Int.reduceEq, Int.reduceLT, Int.reduceLE, Nat.reduceMul, Int.reduceToNat, Nat.reduceAdd, Int.reduceAdd, Int.reduceSub, Int.reduceMul, Int.reduceNeg, rs46, lateK_eq]
      refine ⟨_, wkD.refl _, .inl ⟨_, _, _, _, [], _, [], .full, ty28, rfl, ty5, rfl, rfl, by decide, .inl (srcA_dl ty28 rfl), rfl, .inl rfl, fun _ => ?_, fun h => absurd rfl h⟩⟩
      simp only [EVA, eawp_seq, eawp_cond, eawp_block, eawp_loop, reduceIte, reduceCtorEq, Nat.reduceEqDiff, Nat.reduceLT, Nat.reduceLeDiff, Int.reduceEq, Int.reduceLT, Int.reduceLE, Nat.reduceMul, Int.reduceToNat, Nat.reduceAdd, Int.reduceAdd, Int.reduceSub, Int.reduceMul, Int.reduceNeg, rs46]
      exact ⟨_, wkR.a (wkA.v (wkV.nilf _ _)), hK⟩
  · rw [if_neg h0] at hg
    refine ACall.enter Try.func46 (by kernel_rfl) rfl (eawp_sound noY_sound _ _ _ _ ?_)
    simp only [EVA, eawp_seq, eawp_cond, eawp_block, eawp_loop, reduceIte, reduceCtorEq, Nat.reduceEqDiff, Nat.reduceLT, Nat.reduceLeDiff, Int.reduceEq, Int.reduceLT, Int.reduceLE, Nat.reduceMul, Int.reduceToNat, Nat.reduceAdd, Int.reduceAdd, Int.reduceSub, Int.reduceMul, Int.reduceNeg, Try.ntmps46, rs46]
    have h1 : List.map (AV.int .u8) a0 ≠ [] := fun h => h0 (List.map_eq_nil_iff.1 h)
    refine Br.neg h1 ?_
    simp only [EVA, eawp_seq, eawp_cond, eawp_block, eawp_loop, reduceIte, reduceCtorEq, Nat.reduceEqDiff, Nat.reduceLT, Nat.reduceLeDiff, Int.reduceEq, Int.reduceLT, Int.reduceLE, Nat.reduceMul, Int.reduceToNat, Nat.reduceAdd, Int.reduceAdd, Int.reduceSub, Int.reduceMul, Int.reduceNeg, rs46, lateK_eq]
    refine AppE.mut ty28 rfl ty5 rfl rfl (by decide) (srcA_dl ty28 rfl) h1 (by rw [List.length_map]; exact Nat.le_trans (Nat.mul_le_mul_right _ hl) (by decide)) (by rw [List.length_map]; exact Nat.le_trans hl (by decide)) ?_
    rw [flat_one (AV.int .u8) (fun _ => rfl)]
    simp only [EVA, eawp_seq, eawp_cond, eawp_block, eawp_loop, reduceIte, reduceCtorEq, Nat.reduceEqDiff, Nat.reduceLT, Nat.reduceLeDiff, Int.reduceEq, Int.reduceLT, Int.reduceLE, Nat.reduceMul, Int.reduceToNat, Nat.reduceAdd, Int.reduceAdd, Int.reduceSub, Int.reduceMul, Int.reduceNeg, rs46]
    exact hK1 h0 hg H.length _ (hS.pushO _)
/-- math/bits.Mul64 -/
theorem rs92 : Try.f92.results.toList = [.tmp 4, .tmp 5] := rfl
def g92 (n : Nat) (a0 : Int) (a1 : Int) : Option (Int × Int) := some (IntKind.u64.wrap ((IntKind.u64.wrap ((IntKind.u64.wrap ((Int.fdiv a0 4294967296) * (Int.fdiv a1 4294967296))) + (Int.fdiv (IntKind.u64.wrap ((IntKind.u64.wrap ((Int.fdiv a0 4294967296) * (bitsA .and .u64 a1 4294967295))) + (Int.fdiv (IntKind.u64.wrap ((bitsA .and .u64 a0 4294967295) * (bitsA .and .u64 a1 4294967295))) 4294967296))) 4294967296))) + (Int.fdiv (IntKind.u64.wrap ((bitsA .and .u64 (IntKind.u64.wrap ((IntKind.u64.wrap ((Int.fdiv a0 4294967296) * (bitsA .and .u64 a1 4294967295))) + (Int.fdiv (IntKind.u64.wrap ((bitsA .and .u64 a0 4294967295) * (bitsA .and .u64 a1 4294967295))) 4294967296))) 4294967295) + (IntKind.u64.wrap ((bitsA .and .u64 a0 4294967295) * (Int.fdiv a1 4294967296))))) 4294967296)), IntKind.u64.wrap (a0 * a1))
theorem c92 {B : Nat} {w0 : World} {n : Nat} {a0 : Int} {a1 : Int} {H : AHeap} {L : List Item} {K : AV → AHeap → Prop} {r : (Int × Int)} (hS : Hv H (L)) (hg : g92 n a0 a1 = some r) (hK : ∀ (H' : AHeap), Hv H' (L) → K (.tup [.int .u64 r.1, .int .u64 r.2]) H') : ACall Try.prog B w0 92 [.int .u64 a0, .int .u64 a1] H K := by
  refine ACall.ret ?_
  unfold g92 at hg
  refine ACall.enterK Try.f92 Try.func92 (by kernel_rfl) rfl (eawp_sound noY_sound _ _ _ _ ?_)
  have hF := True.intro
  have F := hS.facts
  have h0 := True.intro
  repeat' (first | ((with_reducible refine atEany ?_); first | refine pSeq rfl ?_ | refine pBlk rfl ?_ | refine pLoop rfl ?_ | refine pRange rfl ?_ | refine pDraw rfl ?_) | ((first
    | (clear h0)
    | (with_reducible exact noneE hg)
    | ((with_reducible refine atGBr ?_); ((with_reducible first | refine Br.iteB hg (fun h hg => ?_) (fun h hg => ?_) | refine Br.iteP hg (fun h hg => ?_) (fun h hg => ?_)) <;> replace hF := And.intro h hF))
    | ((with_reducible refine atGbr ?_); ((with_reducible refine branchB hg (fun h hg => ?_) (fun h hg => ?_)) <;> replace hF := And.intro h hF))
    | ((with_reducible refine atEany ?_); first | refine pReg rfl ?_ | refine pCond rfl ?_ | refine pRet rfl ?_ | refine pExit rfl ?_ | refine pSkip rfl ?_)
    | ((with_reducible refine atRet ?_); (with_reducible replace hg := Option.some.inj hg); subst hg; first | exact (RetK.go (hK ) (by first | exact rR | exact rT | exact rF | exact rN | exact rG (by (repeat first | exact kZ | apply kR | apply kF | apply kN | apply kE | apply kI | apply kI2 | apply kI3 | apply kT | apply kU); fail_if_success refine ?_) | exact rU (by (repeat first | exact aZ | apply aR | apply aF | apply aN | apply aT | refine aG (by (repeat first | exact kZ | apply kR | apply kF | apply kN | apply kE | apply kI | apply kI2 | apply kI3 | apply kT | apply kU)) ?_); fail_if_success refine ?_)) hS (by (repeat first | exact nD | (apply nT; (· (repeat first | exact pH | apply pT))) | (apply nW; (· (repeat first | exact pH | apply pT)); (· (repeat first | exact kZ | apply kR | apply kF | apply kN | apply kE | apply kI | apply kI2 | apply kI3 | apply kT | apply kU))) | apply nF | apply nX); fail_if_success refine ?_)))
    | ((with_reducible replace hg := ifT hg (by simp only [hF, and_self]; done)))
    | ((with_reducible replace hg := ifF hg (by simp only [hF, and_true, and_false, false_and, not_false_eq_true, Bool.false_eq_true, reduceCtorEq]; done)))
    | (simp only [hF, reduceIte] at hg)) <;> ((repeat ((with_reducible replace hg := gAny hg); obtain ⟨h, hg⟩ := hg; (with_reducible first | replace h := qN h | replace h := qS3 h | replace h := qS2 h | replace h := qS1 h | replace h := q4 h | replace h := q3 h | replace h := q2 h | replace h := q1 h); replace hF := And.intro h hF)); replace F := hS.facts; (try simp only [Facts_obj, Facts_tl, Facts_own] at F); try simp only [EVA, reduceIte, reduceCtorEq, Nat.reduceEqDiff, Nat.reduceLT, Nat.reduceLeDiff, Int.reduceEq, Int.reduceLT, Int.reduceLE, Nat.reduceMul, Int.reduceToNat, Nat.reduceAdd, Int.reduceAdd, Int.reduceSub, Int.reduceMul, Int.reduceNeg, Try.ntmps92, rs92, hF, F])))
/-- math/bits.Mul -/
theorem rs77 : Try.f77.results.toList = [.tmp 4, .tmp 5] := rfl
def g77 (n : Nat) (a0 : Int) (a1 : Int) : Option (Int × Int) := (g92 n a0 a1).bind fun v1 => some (v1.1, v1.2)
theorem c77 {B : Nat} {w0 : World} {n : Nat} {a0 : Int} {a1 : Int} {H : AHeap} {L : List Item} {K : AV → AHeap → Prop} {r : (Int × Int)} (hS : Hv H (L)) (hg : g77 n a0 a1 = some r) (hK : ∀ (H' : AHeap), Hv H' (L) → K (.tup [.int .u64 r.1, .int .u64 r.2]) H') : ACall Try.prog B w0 77 [.int .u64 a0, .int .u64 a1] H K := by
  refine ACall.ret ?_
  unfold g77 at hg
  refine ACall.enterK Try.f77 Try.func77 (by kernel_rfl) rfl (eawp_sound noY_sound _ _ _ _ ?_)
  have hF := True.intro
  have F := hS.facts
  have h0 := True.intro
  repeat' (first | ((with_reducible refine atEany ?_); first | refine pSeq rfl ?_ | refine pBlk rfl ?_ | refine pLoop rfl ?_ | refine pRange rfl ?_ | refine pDraw rfl ?_) | ((first
    | (clear h0)
    | (with_reducible exact noneE hg)
    | ((with_reducible refine atGBr ?_); ((with_reducible first | refine Br.iteB hg (fun h hg => ?_) (fun h hg => ?_) | refine Br.iteP hg (fun h hg => ?_) (fun h hg => ?_)) <;> replace hF := And.intro h hF))
    | ((with_reducible refine atGbr ?_); ((with_reducible refine branchB hg (fun h hg => ?_) (fun h hg => ?_)) <;> replace hF := And.intro h hF))
    | ((with_reducible refine atEany ?_); first | refine pReg rfl ?_ | refine pCond rfl ?_ | refine pRet rfl ?_ | refine pExit rfl ?_ | refine pSkip rfl ?_)
    | ((with_reducible refine atF 92 ?_); (with_reducible replace hg := bind_some hg); obtain ⟨_, hc, hg⟩ := hg; refine ACall.wkN (fun H hS => c92 hS hc ?_) (by (repeat first | exact aZ | apply aR | apply aF | apply aN | apply aT | refine aG (by (repeat first | exact kZ | apply kR | apply kF | apply kN | apply kE | apply kI | apply kI2 | apply kI3 | apply kT | apply kU)) ?_); fail_if_success refine ?_) hS (by (repeat first | exact nD | (apply nT; (· (repeat first | exact pH | apply pT))) | (apply nW; (· (repeat first | exact pH | apply pT)); (· (repeat first | exact kZ | apply kR | apply kF | apply kN | apply kE | apply kI | apply kI2 | apply kI3 | apply kT | apply kU))) | apply nF | apply nX); fail_if_success refine ?_); intro  H hS)
    | ((with_reducible refine atRet ?_); (with_reducible replace hg := Option.some.inj hg); subst hg; first | exact (RetK.go (hK ) (by first | exact rR | exact rT | exact rF | exact rN | exact rG (by (repeat first | exact kZ | apply kR | apply kF | apply kN | apply kE | apply kI | apply kI2 | apply kI3 | apply kT | apply kU); fail_if_success refine ?_) | exact rU (by (repeat first | exact aZ | apply aR | apply aF | apply aN | apply aT | refine aG (by (repeat first | exact kZ | apply kR | apply kF | apply kN | apply kE | apply kI | apply kI2 | apply kI3 | apply kT | apply kU)) ?_); fail_if_success refine ?_)) hS (by (repeat first | exact nD | (apply nT; (· (repeat first | exact pH | apply pT))) | (apply nW; (· (repeat first | exact pH | apply pT)); (· (repeat first | exact kZ | apply kR | apply kF | apply kN | apply kE | apply kI | apply kI2 | apply kI3 | apply kT | apply kU))) | apply nF | apply nX); fail_if_success refine ?_)))
    | ((with_reducible replace hg := ifT hg (by simp only [hF, and_self]; done)))
    | ((with_reducible replace hg := ifF hg (by simp only [hF, and_true, and_false, false_and, not_false_eq_true, Bool.false_eq_true, reduceCtorEq]; done)))
    | (simp only [hF, reduceIte] at hg)) <;> ((repeat ((with_reducible replace hg := gAny hg); obtain ⟨h, hg⟩ := hg; (with_reducible first | replace h := qN h | replace h := qS3 h | replace h := qS2 h | replace h := qS1 h | replace h := q4 h | replace h := q3 h | replace h := q2 h | replace h := q1 h); replace hF := And.intro h hF)); replace F := hS.facts; (try simp only [Facts_obj, Facts_tl, Facts_own] at F); try simp only [EVA, reduceIte, reduceCtorEq, Nat.reduceEqDiff, Nat.reduceLT, Nat.reduceLeDiff, Int.reduceEq, Int.reduceLT, Int.reduceLE, Nat.reduceMul, Int.reduceToNat, Nat.reduceAdd, Int.reduceAdd, Int.reduceSub, Int.reduceMul, Int.reduceNeg, Try.ntmps77, rs77, hF, F])))
end Go.Av
end
